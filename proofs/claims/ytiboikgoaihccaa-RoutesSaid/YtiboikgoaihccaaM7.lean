/-
Texts of package route, put together by program.
-/
import Derived.Test.YtiboikgoaihccaaM6
import Derived.Test.YtiboikgoaihccaaProg
import Derived.KernelRfl
import Derived.Test.YtiboikgoaihccaaRC
import Derived.Test.YtiboikgoaihccaaTt
import Derived.Test.YtiboikgoaihccaaM5
import Derived.Test.YtiboikgoaihccaaS36
import Derived.Test.YtiboikgoaihccaaS34
import Derived.Test.YtiboikgoaihccaaS31
import Derived.Test.YtiboikgoaihccaaS15
namespace Go.Proofs.Ytiboikgoaihccaa.R

section
open Go.RowKit
set_option linter.unusedVariables false

/-- The same, or numbers both. -/
def Alike (v v' : Value) : Prop := v' = v ∨ ((∃ z, v = .int .i64 z) ∧ ∃ z', v' = .int .i64 z')

/-- In the blocks of B numbers alone are written over, elsewhere below N nothing. -/
structure IStab (N : Nat) (B : Nat → Prop) (w w' : World) : Prop where
  os : w'.os = w.os
  tape : w'.tape = w.tape
  output : w'.output = w.output
  size : w.heap.size ≤ w'.heap.size
  out : ∀ g, g < N → ¬ B g → w'.heap[g]? = w.heap[g]?
  in_ : ∀ g, B g → ∀ cs el fz, w.heap[g]? = some (.cells cs el fz) → ∃ cs', w'.heap[g]? = some (.cells cs' el fz) ∧ cs'.size = cs.size ∧ ∀ (j : Nat) v, cs[j]? = some v → ∃ v', cs'[j]? = some v' ∧ Alike v v'

theorem Alike.trans {a b c : Value} (h : Alike a b) (k : Alike b c) : Alike a c := by
  rcases h with h | ⟨⟨z, h1⟩, z', h2⟩
  · subst h; exact k
  · rcases k with k | ⟨_, z2, k2⟩
    · exact .inr ⟨⟨z, h1⟩, z', by rw [k, h2]⟩
    · exact .inr ⟨⟨z, h1⟩, z2, k2⟩

theorem IStab.refl (N : Nat) (B : Nat → Prop) (w : World) : IStab N B w w := ⟨rfl, rfl, rfl, Nat.le_refl _, fun _ _ _ => rfl, fun g _ cs el fz h => ⟨cs, h, rfl, fun j v hv => ⟨v, hv, .inl rfl⟩⟩⟩

theorem IStab.trans {N : Nat} {B : Nat → Prop} {w1 w2 w3 : World} (h : IStab N B w1 w2) (k : IStab N B w2 w3) : IStab N B w1 w3 := by
  refine ⟨k.os.trans h.os, k.tape.trans h.tape, k.output.trans h.output, Nat.le_trans h.size k.size, fun g h1 h2 => (k.out g h1 h2).trans (h.out g h1 h2), fun g hg cs el fz hc => ?_⟩
  obtain ⟨cs2, a1, a2, a3⟩ := h.in_ g hg cs el fz hc
  obtain ⟨cs3, b1, b2, b3⟩ := k.in_ g hg cs2 el fz a1
  refine ⟨cs3, b1, b2.trans a2, fun j v hv => ?_⟩
  obtain ⟨v2, c1, c2⟩ := a3 j v hv
  obtain ⟨v3, d1, d2⟩ := b3 j v2 c1
  exact ⟨v3, d1, c2.trans d2⟩

/-- What a run that writes nothing of what was there leaves. -/
theorem IStab.grows {N : Nat} {B : Nat → Prop} {w w' : World} (hN : N ≤ w.heap.size) (hB : ∀ g, B g → g < w.heap.size) (h : FrmOk (frmOf (fun g => B g.2) w) w') : IStab N B w w' :=
  ⟨h.os, h.tape, h.output, h.size, fun g h1 _ => h.block g (Nat.lt_of_lt_of_le h1 hN) (fun hh => hh), fun g hg cs el fz hc => ⟨cs, by rw [h.block g (hB g hg) (fun hh => hh)]; exact hc, rfl, fun j v hv => ⟨v, hv, .inl rfl⟩⟩⟩

theorem IStab.cell {N : Nat} {B : Nat → Prop} {w w' : World} (h : IStab N B w w') {a : Addr} {v : Value} (hb : B a.block) (hc : w.cell? a = some v) : ∃ v', w'.cell? a = some v' ∧ Alike v v' := by
  unfold World.cell? at hc ⊢
  cases hh : w.heap[a.block]? with
  | none => rw [hh] at hc; cases hc
  | some o =>
    rw [hh] at hc
    cases o with
    | cells cs el fz =>
      obtain ⟨cs', a1, a2, a3⟩ := h.in_ _ hb _ _ _ hh
      rw [a1]
      simp only [] at hc ⊢
      cases hs : a.spot.isSome with
      | true => rw [hs] at hc; simp at hc
      | false =>
        rw [hs] at hc
        simp only [Bool.false_eq_true, if_false] at hc ⊢
        exact a3 _ _ hc
    | _ => cases hc

theorem exist_list {α : Type} : ∀ (n : Nat) (Q : Nat → α → Prop), (∀ i, i < n → ∃ y, Q i y) → ∃ l : List α, l.length = n ∧ ∀ (i : Nat) y, l[i]? = some y → Q i y
  | 0, Q, _ => ⟨[], rfl, fun i y h => by simp at h⟩
  | n + 1, Q, h => by
    obtain ⟨l, h1, h2⟩ := exist_list n Q fun i hi => h i (by omega)
    obtain ⟨y, hy⟩ := h n (by omega)
    refine ⟨l ++ [y], by simp [h1], fun i z hz => ?_⟩
    rcases Nat.lt_or_ge i l.length with hi | hi
    · rw [List.getElem?_append_left hi] at hz
      exact h2 i z hz
    · rw [List.getElem?_append_right hi] at hz
      have : i - l.length = 0 := by
        have := (List.getElem?_eq_some_iff.1 hz).1
        simp at this
        omega
      rw [this] at hz
      simp only [List.getElem?_cons_zero, Option.some.injEq] at hz
      subst hz
      have : i = n := by omega
      subst this
      exact hy

/-- Numbers and rows of numbers. -/
def ilT : Ty → Bool
  | .int .i64 => true
  | .list (.int .i64) => true
  | .pair a b => ilT a && ilT b
  | _ => false

section
variable {N : Nat} {B : Nat → Prop} {w w' : World}

theorem stab_ints (h : IStab N B w w') {l : List Int} {x : Value} (hx : DRel (fun g => B g.2) w (.list (.int .i64)) l [x]) : ∃ l' : List Int, l'.length = l.length ∧ DRel (fun g => B g.2) w' (.list (.int .i64)) l' [x] := by
  obtain ⟨A, c, e, hc, hel⟩ := hx
  have key : ∀ i, i < l.length → ∃ (z : Int) (ad : Addr), A = some ad ∧ B ad.block ∧ w'.cell? (ad.add (i * 1)) = some (.int .i64 z) := fun i hi => by
    obtain ⟨ad, zs, e1, e2, e3, e4⟩ := hel i _ (List.getElem?_eq_getElem hi)
    have e3 : zs = [.int .i64 l[i]] := e3
    subst e3
    have hb : (ad.add (i * 1 + 0)).block = ad.block := by unfold Addr.add; split <;> rfl
    have hb2 : B (ad.add (i * 1 + 0)).block := by rw [hb]; exact e2
    obtain ⟨v', v1, v2⟩ := h.cell (a := ad.add (i * 1 + 0)) hb2 (e4 0 _ rfl)
    rcases v2 with v2 | ⟨_, z', v2⟩
    · exact ⟨_, ad, e1, e2, by rw [← v2]; exact v1⟩
    · exact ⟨z', ad, e1, e2, by rw [← v2]; exact v1⟩
  obtain ⟨l', h1, h2⟩ := exist_list l.length (fun i (z : Int) => ∃ ad : Addr, A = some ad ∧ B ad.block ∧ w'.cell? (ad.add (i * 1)) = some (.int .i64 z)) key
  refine ⟨l', h1, A, c, by rw [h1]; exact e, by rw [h1]; exact hc, fun i z hz => ?_⟩
  obtain ⟨ad, a1, a2, a3⟩ := h2 i z hz
  refine ⟨ad, [.int .i64 z], a1, a2, rfl, fun j y hy => ?_⟩
  cases j with
  | zero =>
    simp only [List.getElem?_cons_zero, Option.some.injEq] at hy
    subst hy
    exact a3
  | succ j => simp at hy

theorem stab_cells (h : IStab N B w w') : ∀ {t : Ty} {d : t.den} {zs zs' : List Value}, ilT t = true → DRel (fun g => B g.2) w t d zs → zs'.length = zs.length → (∀ (j : Nat) v v', zs[j]? = some v → zs'[j]? = some v' → Alike v v') → ∃ d', DRel (fun g => B g.2) w' t d' zs' ∧ (lenB t d = true → lenB t d' = true)
  | .int .i64, d, zs, zs', _, hd, hl, ha => by
    have hd : zs = [.int .i64 d] := hd
    subst hd
    match zs', hl with
    | [v], _ =>
      rcases ha 0 _ v rfl rfl with h1 | ⟨_, z, h1⟩
      · exact ⟨d, by rw [h1]; rfl, fun h => h⟩
      · exact ⟨z, by rw [h1]; rfl, fun _ => rfl⟩
  | .list (.int .i64), d, zs, zs', _, hd, hl, ha => by
    obtain ⟨A, c, e, hc, hel⟩ := hd
    subst e
    match zs', hl with
    | [v], _ =>
      rcases ha 0 _ v rfl rfl with h1 | ⟨⟨z, h1⟩, _⟩
      · subst h1
        obtain ⟨l', h1, h2⟩ := stab_ints h (l := d) (x := .slice A d.length c) ⟨A, c, rfl, hc, hel⟩
        refine ⟨l', h2, fun hd => ?_⟩
        have hd := of_decide_eq_true hd
        exact decide_eq_true (by rw [h1]; exact hd)
      · cases h1
  | .pair a b, d, zs, zs', hi, hd, hl, ha => by
    simp only [ilT, Bool.and_eq_true] at hi
    obtain ⟨y1, y2, e, h1, h2⟩ := hd
    subst e
    have hsp : zs' = zs'.take y1.length ++ zs'.drop y1.length := (List.take_append_drop _ _).symm
    have hlen : zs'.length = y1.length + y2.length := by rw [hl, List.length_append]
    obtain ⟨d1, g1, s1⟩ := stab_cells h hi.1 h1 (zs' := zs'.take y1.length) (by rw [List.length_take]; omega) fun j v v' hv hv' => by
      have hj := (List.getElem?_eq_some_iff.1 hv).1
      rw [List.getElem?_take_of_lt hj] at hv'
      exact ha j v v' (by rw [List.getElem?_append_left hj]; exact hv) hv'
    obtain ⟨d2, g2, s2⟩ := stab_cells h hi.2 h2 (zs' := zs'.drop y1.length) (by rw [List.length_drop]; omega) fun j v v' hv hv' => by
      rw [List.getElem?_drop] at hv'
      exact ha (y1.length + j) v v' (by rw [List.getElem?_append_right (by omega), Nat.add_sub_cancel_left]; exact hv) hv'
    refine ⟨(d1, d2), ⟨zs'.take y1.length, zs'.drop y1.length, hsp, g1, g2⟩, fun hd => ?_⟩
    simp only [lenB, Bool.and_eq_true] at hd ⊢
    exact ⟨s1 hd.1, s2 hd.2⟩

theorem stab_list (h : IStab N B w w') {t : Ty} (hi : ilT t = true) {l : List t.den} {x : Value} (hx : DRel (fun g => B g.2) w (.list t) l [x]) : ∃ l' : List t.den, l'.length = l.length ∧ DRel (fun g => B g.2) w' (.list t) l' [x] ∧ (l.all (lenB t) = true → l'.all (lenB t) = true) := by
  obtain ⟨A, c, e, hc, hel⟩ := hx
  have key : ∀ i, i < l.length → ∃ (d : t.den) , (∃ (ad : Addr) (zs : List Value), A = some ad ∧ B ad.block ∧ DRel (fun g => B g.2) w' t d zs ∧ ∀ (j : Nat) z, zs[j]? = some z → w'.cell? (ad.add (i * t.size + j)) = some z) ∧ (l.all (lenB t) = true → lenB t d = true) := fun i hlt => by
    obtain ⟨ad, zs, e1, e2, e3, e4⟩ := hel i _ (List.getElem?_eq_getElem hlt)
    obtain ⟨zs', g1, g2⟩ := exist_list zs.length (fun j v' => ∃ v, zs[j]? = some v ∧ w'.cell? (ad.add (i * t.size + j)) = some v' ∧ Alike v v') fun j hj => by
      have hz := List.getElem?_eq_getElem hj
      have hb : (ad.add (i * t.size + j)).block = ad.block := by unfold Addr.add; split <;> rfl
      have hb2 : B (ad.add (i * t.size + j)).block := by rw [hb]; exact e2
      obtain ⟨v', v1, v2⟩ := h.cell (a := ad.add (i * t.size + j)) hb2 (e4 j _ hz)
      exact ⟨v', _, hz, v1, v2⟩
    obtain ⟨d', hd', hs'⟩ := stab_cells h hi e3 g1 fun j v v' hv hv' => by
      obtain ⟨v0, k1, _, k3⟩ := g2 j v' hv'
      rw [hv] at k1
      obtain rfl := Option.some.inj k1
      exact k3
    exact ⟨d', ⟨ad, zs', e1, e2, hd', fun j z hz => by obtain ⟨_, _, k2, _⟩ := g2 j z hz; exact k2⟩, fun hall => hs' (List.all_eq_true.1 hall _ (List.getElem_mem hlt))⟩
  obtain ⟨l', h1, h2⟩ := exist_list l.length (fun i (d : t.den) => (∃ (ad : Addr) (zs : List Value), A = some ad ∧ B ad.block ∧ DRel (fun g => B g.2) w' t d zs ∧ ∀ (j : Nat) z, zs[j]? = some z → w'.cell? (ad.add (i * t.size + j)) = some z) ∧ (l.all (lenB t) = true → lenB t d = true)) key
  refine ⟨l', h1, ⟨A, c, by rw [h1]; exact e, by rw [h1]; exact hc, fun i d hd => ?_⟩, fun hall => List.all_eq_true.2 fun d hd => ?_⟩
  · obtain ⟨ad, zs, a1, a2, a3, a4⟩ := (h2 i d hd).1
    exact ⟨ad, zs, a1, a2, a3, a4⟩
  · obtain ⟨i, hi⟩ := List.mem_iff_getElem?.1 hd
    exact (h2 i d hi).2 hall

/-- A number is stored where a number was. -/
theorem store_stab {g p : Nat} {cs : Array Value} {el : TypeId} {z z' : Int} (hg : w.heap[g]? = some (.cells cs el (0, 0))) (hb : B g ∨ N ≤ g) (hp : cs[p]? = some (.int .i64 z)) :
    IStab N B w (w.setRow g (cs.toList.take p ++ [Value.int .i64 z'] ++ cs.toList.drop (p + 1)).toArray) := by
  have hlt := (Array.getElem?_eq_some_iff.1 hp).1
  refine ⟨rfl, rfl, rfl, by simp, fun g' h1 h2 => setRow_other w g g' _ fun e => hb.elim (fun hb => h2 (e ▸ hb)) (fun hb => by omega), fun g' hg' cs' el' fz hc => ?_⟩
  by_cases he : g' = g
  · subst he
    rw [hg] at hc
    injection hc with hc
    injection hc with e1 e2 e3
    subst e1; subst e2; subst e3
    refine ⟨_, setRow_heap w g' cs _ el (0, 0) hg, ?_, fun j v hv => ?_⟩
    · simp only [List.size_toArray, List.length_append, List.length_take, List.length_drop, Array.length_toList, List.length_singleton]
      omega
    · have hj := (Array.getElem?_eq_some_iff.1 hv).1
      by_cases hjp : j = p
      · subst hjp
        rw [hp] at hv
        obtain rfl := Option.some.inj hv
        refine ⟨Value.int .i64 z', ?_, .inr ⟨⟨z, rfl⟩, z', rfl⟩⟩
        rw [List.getElem?_toArray, List.append_assoc, List.getElem?_append_right (by simp; omega)]
        simp [Nat.min_eq_left (Nat.le_of_lt hlt)]
      · refine ⟨v, ?_, .inl rfl⟩
        rw [List.getElem?_toArray]
        have hv' : cs.toList[j]? = some v := by simpa using hv
        rcases Nat.lt_or_ge j p with h1 | h1
        · rw [List.append_assoc, List.getElem?_append_left (by simp; omega), List.getElem?_take_of_lt h1]
          exact hv'
        · rw [List.append_assoc, List.getElem?_append_right (by simp; omega), List.getElem?_append_right (by simp; omega), List.getElem?_drop]
          rw [← hv']
          congr 1
          simp
          omega
  · exact ⟨cs', by rw [setRow_other w g g' _ he]; exact hc, rfl, fun j v hv => ⟨v, hv, .inl rfl⟩⟩

end
end

section
open Go.RowKit
set_option linter.unusedVariables false

section
variable {P : Program} {E : Env} {C : Frm} {β : Nat → Option Loc} {σ : St} {us0 : List (Array Value)} {w : World} {a : Act} {o : Oper} {R : Type} {r : R} {I : Array Value → Prop}

theorem evOpsPre (hT : TtOk P E.tt) {H : Handler R} (hH : HOkI P C I H r) {d : Nat} {ops : Array Oper} {K : St → Option R} {Q : Exit → Act → World → Prop} {js : List Nat}
    (hQ : ∀ (a' : Act) w' β' σ', a'.defers = [] → Sim C β' σ' (a'.tmps :: []) w' → I a'.tmps → K σ' = some r → wpOps P ops Q js a' w') :
    ∀ (l : List Oper) (k : Nat) (is : List Nat) (a : Act) (w : World) (β : Nat → Option Loc) (σ : St), is = (List.range l.length).map (k + ·) → (∀ j : Nat, j < l.length → ops[k + j]? = l[j]?) → a.defers = [] → Sim C β σ (a.tmps :: []) w → I a.tmps → (∀ o ∈ l, ∀ (a : Act) x, I a.tmps → I (a.put o.dst x).tmps) → evOps E H d ops l σ K = some r → wpOps P ops Q (is ++ js) a w
  | [], k, is, a, w, β, σ, hi, hl, hd, h, hI0, hIl, he => by
    subst hi
    exact hQ a w β σ hd h hI0 he
  | o :: l, k, is, a, w, β, σ, hi, hl, hd, h, hI0, hIl, he => by
    have h0 : ops[k]? = some o := by simpa using hl 0 (by simp)
    have his : is = k :: (List.range l.length).map (k + 1 + ·) := by
      rw [hi, List.length_cons, List.range_succ_eq_map, List.map_cons, List.map_map]
      simp only [Nat.add_zero, List.cons.injEq, true_and]
      refine List.map_congr_left fun x _ => ?_
      simp only [Function.comp]; omega
    rw [his, List.cons_append]
    have hIo := fun x => hIl o (by simp) a x hI0
    have hIr := fun o ho => hIl o (List.mem_cons_of_mem _ ho)
    have ih := fun a w β σ => evOpsPre (d := d) (Q := Q) (js := js) hT hH hQ l (k + 1) _ a w β σ rfl (fun j hj => by have := hl (j + 1) (by simpa using hj); simpa [Nat.add_assoc, Nat.add_comm 1 j] using this)
    have run : ∀ σ1, Sim C β σ1 (a.tmps :: []) w → evOp E H d o σ1 (fun σ => evOps E H d ops l σ K) = some r → o.wp P a w (wpOps P ops Q ((List.range l.length).map (k + 1 + ·) ++ js)) Q :=
      fun σ1 h1 he1 => evOpI hT hH (K := fun σ => evOps E H d ops l σ K) h1 hd hI0 hIo (fun a' w' β' σ' hd' hs' hI' hK' => ih a' w' β' σ' hd' hs' hI' hIr hK') he1
    have skip : ∀ σ1, Sim C β σ1 (a.tmps :: []) w → evOps E H d ops l (σ1.put o.dst (.tup [])) K = some r → wpOps P ops Q ((List.range l.length).map (k + 1 + ·) ++ js) (a.put o.dst undef) w :=
      fun σ1 h1 he1 => ih _ _ _ _ (by rw [put_defers]; exact hd) (h1.put (a := a) o.dst (v := .tup []) (x := undef) ⟨#[], rfl, trivial⟩) (hIo _) hIr he1
    simp only [wpOps, h0]
    simp only [evOps] at he
    split at he
    · rename_i hg
      have hw : Region.wanted o (yielded ops a.tmps) = true := by simp [Region.wanted, hg]
      simp only [hw, if_true]
      exact .inl (run σ h he)
    · rename_i j want hg
      split at he
      · rename_i t ht
        split at he
        · rename_i b hb
          have hv := h.get t
          rw [hb] at hv
          have hv : a.tmps.getD t undef = .bool b := hv
          have hy : yielded ops a.tmps j = some b := by simp [yielded, ht, getD_bool hv]
          have hset : Sim C β (σ.set t (.bool b)) (a.tmps :: []) w := by
            have := h.set t (v := .bool b) (x := .bool b) rfl
            have e : a.tmps.setIfInBounds t (.bool b) = a.tmps := by
              have hx := getD_bool hv
              apply Array.ext_getElem?
              intro i
              rw [Array.getElem?_setIfInBounds]
              by_cases hti : t = i
              · subst hti
                have hlt := (Array.getElem?_eq_some_iff.1 hx).1
                simp only [if_true, hlt, hx]
              · simp [hti]
            rw [e] at this
            exact this
          cases b
          · simp only [cond_false] at he
            cases want
            · simp only [cond_false] at he
              have hw : Region.wanted o (yielded ops a.tmps) = true := by simp [Region.wanted, hg, hy]
              simp only [hw, if_true]
              exact .inl (run _ hset he)
            · simp only [cond_true] at he
              have hw : Region.wanted o (yielded ops a.tmps) = false := by simp [Region.wanted, hg, hy]
              simp only [hw, Bool.false_eq_true, if_false]
              exact skip _ hset he
          · simp only [cond_true] at he
            cases want
            · simp only [cond_false] at he
              have hw : Region.wanted o (yielded ops a.tmps) = false := by simp [Region.wanted, hg, hy]
              simp only [hw, Bool.false_eq_true, if_false]
              exact skip _ hset he
            · simp only [cond_true] at he
              have hw : Region.wanted o (yielded ops a.tmps) = true := by simp [Region.wanted, hg, hy]
              simp only [hw, if_true]
              exact .inl (run _ hset he)
        · rename_i hb
          have hv := h.get t
          rw [hb] at hv
          obtain ⟨ys, hx, hy0⟩ := hv
          have hv : a.tmps.getD t undef = .tuple ys := hx
          have hy : yielded ops a.tmps j = none := by
            simp only [yielded, ht, Option.bind_some]
            rw [Array.getD_eq_getD_getElem?] at hv
            cases hx : a.tmps[t]? with
            | none => rfl
            | some x => rw [hx] at hv; simp at hv; subst hv; rfl
          have hw : Region.wanted o (yielded ops a.tmps) = false := by simp [Region.wanted, hg, hy]
          simp only [hw, Bool.false_eq_true, if_false]
          exact skip _ h he
        · cases he
      · cases he

/-- No calls. -/
def noH {R : Type} : Handler R := fun _ _ _ _ _ => none
theorem noH_ok : HOkI P C I (noH (R := R)) r := fun _ _ _ _ _ _ _ _ _ _ _ _ he => by cases he

/-- The blocks of B are there, and may be written. -/
def Unf (B : Nat → Prop) (w : World) : Prop := ∀ b, B b → b < w.heap.size ∧ ∀ cs el fz, w.heap[b]? = some (.cells cs el fz) → fz = (0, 0)

theorem found {B : Nat → Prop} (hB : Unf B w) {fr : List V} {tmps : Array Value} (hfr : FrRel (cxP (fun g => B g.2) w) fr tmps) : Sim (frmOf (fun g => B g.2) w) (fun _ => none) { fr := fr, outs := [], mem := [] } [tmps] w := by
  have hfree : ∀ g : Ty × Nat, B g.2 → Free (frmOf (fun g => B g.2) w) [] (fun _ => none) w g := by
    intro g hg
    refine ⟨(hB _ hg).1, ?_⟩
    rintro (⟨e, L, h1, _⟩ | hh)
    · cases h1
    · rcases hh with hh | hh
      · exact hh.2 hg
      · have h1 := hh.1
        have h2 := (hB _ hg).1
        have h3 : (frmOf (fun g => B g.2) w).w0.heap.size = w.heap.size := rfl
        omega
  refine ⟨⟨rfl, rfl, rfl, Nat.le_refl _, fun _ _ _ => rfl⟩, ⟨⟨hfr.1, fun t => ?_⟩, trivial⟩, (fun e E hE => by cases hE), (fun e e' L L' h1 => by cases h1), (fun e L h1 => by cases h1)⟩
  exact V3.keeps (S := cxP (fun g => B g.2) w) (S' := ⟨[], fun _ => none, Free (frmOf (fun g => B g.2) w) [] (fun _ => none) w, w⟩) ⟨(fun e E hE => by cases hE), (fun _ _ => rfl), hfree, (fun _ _ => rfl)⟩ (hfr.2 t)

/-- What is so behind operations that only read. -/
structure Behind (B : Nat → Prop) (w w' : World) (a a' : Act) (β' : Nat → Option Loc) (σ' : St) : Prop where
  defers : a'.defers = []
  sim : Sim (frmOf (fun g => B g.2) w) β' σ' [a'.tmps] w'
  slot : a'.tmps.getD 0 undef = a.tmps.getD 0 undef

theorem Behind.unf {B : Nat → Prop} {w w' : World} {a a' : Act} {β' : Nat → Option Loc} {σ' : St} (h : Behind B w w' a a' β' σ') (hB : Unf B w) : Unf B w' := fun b hb =>
  ⟨Nat.lt_of_lt_of_le (hB b hb).1 h.sim.frm.size, fun cs el fz hc => (hB b hb).2 cs el fz (by
    have e : w'.heap[b]? = w.heap[b]? := h.sim.frm.block b (hB b hb).1 (fun hh => hh)
    rw [← e]
    exact hc)⟩

theorem ops_read (hT : TtOk P E.tt) {B : Nat → Prop} (hB : Unf B w) {fr : List V} (hd : a.defers = []) (hfr : FrRel (cxP (fun g => B g.2) w) fr a.tmps) {ops : Array Oper} {n : Nat} {K : St → Option R} {Q : Exit → Act → World → Prop} {js : List Nat} (hjs : List.range ops.size = (List.range n) ++ js) (hn : n ≤ ops.size)
    (hk : (ops.toList.all fun o => match o.dst with | some t => !([0] : List Nat).contains t | none => true) = true) (he : evOps E noH 0 ops (ops.toList.take n) { fr := fr, outs := [], mem := [] } K = some r)
    (hQ : ∀ a' w' β' σ', Behind B w w' a a' β' σ' → K σ' = some r → wpOps P ops Q js a' w') : wpOps P ops Q (List.range ops.size) a w := by
  rw [hjs]
  have hl : (ops.toList.take n).length = n := by rw [List.length_take, Array.length_toList]; omega
  refine evOpsPre (d := 0) (I := KeepI [0] a.tmps) hT noH_ok (K := K) (fun a' w' β' σ' hd' hs' hI' hK' => hQ a' w' β' σ' ⟨hd', hs', hI' 0 (by simp)⟩ hK') (ops.toList.take n) 0 _ a w _ _ ?_ ?_ hd (found hB hfr) (fun t _ => rfl) (fun o ho a x hx => KeepI.put (List.all_eq_true.1 hk o (List.mem_of_mem_take ho)) a x hx) he
  · rw [hl]; simp
  · intro j hj
    rw [hl] at hj
    rw [List.getElem?_take_of_lt hj, Nat.zero_add]
    simp

theorem Behind.at_ {B : Nat → Prop} {w w' : World} {a a' : Act} {β' : Nat → Option Loc} {σ' : St} (h : Behind B w w' a a' β' σ') (t : Nat) {v : V} (hv : σ'.get t = v) : V3 ⟨σ'.mem, β', Free (frmOf (fun g => B g.2) w) σ'.mem β' w', w'⟩ v (a'.tmps.getD t undef) := by
  rw [← hv]
  exact h.sim.fr.1.2 t

/-- A number is stored where a pointer leads that is read alone. -/
theorem store_int (hT : TtOk P E.tt) {B : Nat → Prop} {w w' : World} {a a' : Act} {β' : Nat → Option Loc} {σ' : St} (h : Behind B w w' a a' β' σ') (hB : Unf B w) {t p : Nat} {y : Operand} {z z' : Int} {cs : List V} (hs : (E.tt t).size = 1) (hop : o.op = .store t (.tmp p) y) (hdst : o.dst = none) (hp : σ'.get p = .rop (.int .i64 z :: cs)) (hy : a'.eval y = .int .i64 z')
    {next : Act → World → Prop} {Q : Exit → Act → World → Prop} (hn : ∀ w'', IStab w.heap.size B w' w'' → Unf B w'' → next a' w'') : o.wp P a' w' next Q := by
  have hB' := h.unf hB
  have hv := h.at_ p hp
  obtain ⟨ad, k, hx, hb, hc⟩ := (show ∃ ad k, a'.tmps.getD p undef = .pointer (some ad) ∧ Free (frmOf (fun g => B g.2) w) σ'.mem β' w' (k, ad.block) ∧ ∀ (j : Nat) v, (V.int .i64 z :: cs)[j]? = some v → ∃ y, w'.cell? (ad.add j) = some y ∧ C0 (Free (frmOf (fun g => B g.2) w) σ'.mem β' w') w' v y from hv)
  obtain ⟨y0, h1, h2⟩ := hc 0 _ rfl
  have h2 : y0 = .int .i64 z := h2
  subst h2
  obtain ⟨g, off, spot⟩ := ad
  have hadd : (⟨g, off, spot⟩ : Addr).add 0 = ⟨g, off, spot⟩ := by unfold Addr.add; simp
  rw [hadd] at h1
  unfold World.cell? at h1
  simp only [] at h1
  cases hh : w'.heap[g]? with
  | none => rw [hh] at h1; cases h1
  | some ob =>
    rw [hh] at h1
    cases ob with
    | cells cs0 el fz =>
      simp only [] at h1
      cases spot with
      | some s => simp at h1
      | none =>
        simp only [Option.isSome_none, Bool.false_eq_true, if_false] at h1
        have hB1 : B g ∨ w.heap.size ≤ g := by
          rcases Nat.lt_or_ge g w.heap.size with h3 | h3
          · left
            by_cases h4 : B g
            · exact h4
            · exact absurd (.inr (.inl ⟨h3, h4⟩)) hb.2
          · exact .inr h3
        have hfz : fz = (0, 0) := by
          rcases hB1 with h3 | h3
          · exact (hB' g h3).2 _ _ _ hh
          · by_cases h4 : fz = (0, 0)
            · exact h4
            · exact absurd (.inr (.inr ⟨h3, cs0, el, fz, hh, h4⟩)) hb.2
        subst hfz
        have hlt := (Array.getElem?_eq_some_iff.1 h1).1
        have hr := run_storeAt' (P := P) (w := w') hT (t := t) (x := .int .i64 z') (g := g) (p := off) (by omega) (by rw [hs]; rfl) hh (by show off + 1 ≤ cs0.size; omega) (fun y hy => by
          have hy : y ∈ [Value.int .i64 z'] := hy
          simp only [List.mem_singleton] at hy
          subst hy
          rfl)
        have hex : (execOp a'.eval o).run P w' = .ok .skip (w'.setRow g (cs0.toList.take off ++ [Value.int .i64 z'] ++ cs0.toList.drop (off + 1)).toArray) := by
          have hpx : a'.eval (.tmp p) = .pointer (some ⟨g, off, none⟩) := hx
          simp only [execOp, hop, hpx, hy, Sem.run_bind]
          rw [hr]
          rfl
        unfold Oper.wp
        rw [hex]
        have hst := store_stab (N := w.heap.size) (B := B) (z' := z') hh hB1 h1
        have hput : a'.put o.dst undef = a' := by rw [hdst]; rfl
        show next (a'.put o.dst undef) _
        rw [hput]
        refine hn _ hst fun b hb => ?_
        obtain ⟨h5, h6⟩ := hB' b hb
        refine ⟨Nat.lt_of_lt_of_le h5 hst.size, fun cs1 el1 fz1 hc1 => ?_⟩
        by_cases he : b = g
        · subst he
          rw [setRow_heap w' b cs0 _ el (0, 0) hh] at hc1
          injection hc1 with hc1
          injection hc1 with _ _ e3
          exact e3.symm
        · rw [setRow_other w' g b _ he] at hc1
          exact h6 _ _ _ hc1
    | _ => cases h1

end
end

section
open Go.RowKit
set_option linter.unusedVariables false

/-- A function that writes numbers alone over what it is given. -/
def NumsOk (P : Program) (f : FuncId) (t : Ty) : Prop := Enters P f ∧ ∀ (B : Nat → Prop) (w : World) (l : List t.den) (x : Value), l.length < 4611686018427387904 → l.all (lenB t) = true → Unf B w → DRel (fun g => B g.2) w (.list t) l [x] →
  Calls P f #[x] w fun e w' => e = .returned (.tuple #[]) ∧ IStab w.heap.size B w w' ∧ Unf B w'

def numOf : Value → Nat
  | .int _ n => n.toNat
  | _ => 0

/-- A frame at a round's head. -/
@[reducible] def frA (t : Ty) (l : List t.den) (i : Int) (n : Nat) : List V := .ro t l :: .undef :: .int .i64 i :: List.replicate n .undef

/-- What is so at a round's head. -/
structure AtHead (t : Ty) (n N0 : Nat) (B : Nat → Prop) (x : Value) (w0 : World) (i : Nat) (l : List t.den) (a : Act) (w : World) : Prop where
  defers : a.defers = []
  size : n + 3 ≤ a.tmps.size
  s0 : a.tmps.getD 0 undef = x
  s2 : a.tmps.getD 2 undef = .int .i64 (i : Int)
  stab : IStab N0 B w0 w
  unf : Unf B w
  data : DRel (fun g => B g.2) w (.list t) l [x]
  lens : l.all (lenB t) = true

theorem AtHead.frel {t : Ty} {n N0 : Nat} {B : Nat → Prop} {x : Value} {w0 w : World} {i : Nat} {l : List t.den} {a : Act} (h : AtHead t n N0 B x w0 i l a w) : FrRel (cxP (fun g => B g.2) w) (frA t l (i : Int) n) a.tmps := by
  refine ⟨by simp only [frA, List.length_cons, List.length_replicate]; have := h.size; omega, fun j => ?_⟩
  match j with
  | 0 => rw [h.s0]; exact h.data
  | 1 => exact trivial
  | 2 => rw [h.s2]; rfl
  | j + 3 =>
    show V3 _ ((List.replicate n V.undef).getD j .undef) _
    rw [List.getD_eq_getElem?_getD, List.getElem?_replicate]
    split <;> exact trivial

section
variable {P : Program} {E : Env}

theorem Behind.head {t : Ty} {n N0 : Nat} {B : Nat → Prop} {x : Value} {w0 w w' : World} {i : Nat} {l : List t.den} {a a' : Act} {β' : Nat → Option Loc} {σ' : St} (hN : N0 ≤ w.heap.size) (h : AtHead t n N0 B x w0 i l a w) (b : Behind B w w' a a' β' σ') (hl : σ'.fr.length = n + 3) {j : Nat} (h2 : σ'.get 2 = .int .i64 (j : Int)) : AtHead t n N0 B x w0 j l a' w' := by
  refine ⟨b.defers, ?_, by rw [b.slot, h.s0], b.at_ 2 h2, h.stab.trans (IStab.grows hN (fun g hg => (h.unf g hg).1) b.sim.frm), b.unf h.unf, h.data.mono (fun _ hg => hg) (fun g hg => b.sim.frm.block g.2 (h.unf _ hg).1 (fun hh => hh)), h.lens⟩
  have := b.sim.fr.1.1
  omega

/-- A round's body: the numbers turn, nothing else. -/
def BodyOk (P : Program) (t : Ty) (n : Nat) (body : Code) : Prop := ∀ (N0 : Nat) (B : Nat → Prop) (x : Value) (w0 : World) (i : Nat) (l : List t.den) (a : Act) (w : World), N0 ≤ w.heap.size → l.length < 4611686018427387904 → AtHead t n N0 B x w0 i l a w → i < l.length →
  body.wp P (fun e a' w' => e = .normal ∧ ∃ l' : List t.den, l'.length = l.length ∧ AtHead t n N0 B x w0 i l' a' w') a w

theorem nums_ok (hT : TtOk P E.tt) {t : Ty} {f : FuncId} {fn : Func} {code body : Code} {n : Nat} {r0 r1 r2 : Array Oper} (hf : P.funcs[f]? = some fn) (hname : (fn.name == "runtime.NumGoroutine") = false) (hb : fn.body = some code) (hres : fn.results = #[]) (hnt : fn.ntmps = n + 3)
    (hc : code = .seq (.region 0 r0 false) (.block 0 (.loop (.seq (.seq (.region 1 r1 false) (.cond (.tmp 6) .skip (.exit 0))) (.seq body (.region 2 r2 false))))))
    (k0 : (r0.toList.all fun o => match o.dst with | some t => !([0] : List Nat).contains t | none => true) = true) (k1 : (r1.toList.all fun o => match o.dst with | some t => !([0] : List Nat).contains t | none => true) = true) (k2 : (r2.toList.all fun o => match o.dst with | some t => !([0] : List Nat).contains t | none => true) = true)
    (e0 : ∀ l : List t.den, evOps E noH 0 r0 (r0.toList.take r0.size) { fr := .ro t l :: List.replicate (n + 2) .undef, outs := [], mem := [] } (fun σ => some (σ.fr.length, σ.get 2)) = some (n + 3, .int .i64 0))
    (e1 : ∀ (l : List t.den) (i : Int), evOps E noH 0 r1 (r1.toList.take r1.size) { fr := frA t l i n, outs := [], mem := [] } (fun σ => some (σ.fr.length, σ.get 2, σ.get 6)) = some (n + 3, .int .i64 i, .bool (decide (i < (l.length : Int)))))
    (e2 : ∀ (l : List t.den) (i : Int), evOps E noH 0 r2 (r2.toList.take r2.size) { fr := frA t l i n, outs := [], mem := [] } (fun σ => some (σ.fr.length, σ.get 2)) = some (n + 3, .int .i64 (Go.IntKind.i64.wrap (i + 1))))
    (hbody : BodyOk P t n body) : NumsOk P f t := by
  refine ⟨⟨fn, code, hf, hname, hb⟩, fun B w l x hlen hall hu hx => calls_of_wp hf hb ?_⟩
  subst hc
  have hsz : (#[x] ++ Array.replicate (fn.ntmps - 1) undef : Array Value).size = n + 3 := by simp [hnt]; omega
  have hs0 : (#[x] ++ Array.replicate (fn.ntmps - 1) undef : Array Value).getD 0 undef = x := by
    rw [Array.getD_eq_getD_getElem?, Array.getElem?_append_left (by simp)]
    rfl
  -- the beginning
  refine wp_seq (wp_region ?_)
  have hfr0 : FrRel (cxP (fun g => B g.2) w) (.ro t l :: List.replicate (n + 2) .undef) (#[x] ++ Array.replicate (fn.ntmps - 1) undef) := by
    refine ⟨by simp only [List.length_cons, List.length_replicate]; omega, fun j => ?_⟩
    match j with
    | 0 => rw [hs0]; exact hx
    | j + 1 =>
      show V3 _ ((List.replicate (n + 2) V.undef).getD j .undef) _
      rw [List.getD_eq_getElem?_getD, List.getElem?_replicate]
      split <;> exact trivial
  refine ops_read hT hu rfl hfr0 (n := r0.size) (js := []) (by simp) (Nat.le_refl _) k0 (e0 l) fun a' w' β' σ' b hK => ?_
  have hK := Option.some.inj hK
  injection hK with hK1 hK2
  have hst : IStab w.heap.size B w w' := IStab.grows (Nat.le_refl _) (fun g hg => (hu g hg).1) b.sim.frm
  have h0 : AtHead t n w.heap.size B x w 0 l a' w' := by
    refine ⟨b.defers, ?_, by rw [b.slot]; exact hs0, b.at_ 2 hK2, hst, b.unf hu, hx.mono (fun _ hg => hg) (fun g hg => b.sim.frm.block g.2 (hu _ hg).1 (fun hh => hh)), hall⟩
    have := b.sim.fr.1.1
    omega
  show (Code.block 0 _).wp P _ a' w'
  refine wp_block (wp_loop (fun a w1 => ∃ (i : Nat) (l' : List t.den), i ≤ l.length ∧ l'.length = l.length ∧ w.heap.size ≤ w1.heap.size ∧ AtHead t n w.heap.size B x w i l' a w1) (fun a _ => l.length - numOf (a.tmps.getD 2 undef)) ⟨0, l, Nat.zero_le _, rfl, hst.size, h0⟩ ?_)
  rintro a1 w1 ⟨i, l', hi, hl', hN, hh⟩
  refine wp_seq (wp_seq (wp_region ?_))
  refine ops_read hT hh.unf hh.defers hh.frel (n := r1.size) (js := []) (by simp) (Nat.le_refl _) k1 (e1 l' (i : Int)) fun a2 w2 β2 σ2 b2 hK2 => ?_
  have hK2 := Option.some.inj hK2
  injection hK2 with q1 q23
  injection q23 with q2 q3
  have hh2 := b2.head hN hh q1 q2
  have hN2 : w.heap.size ≤ w2.heap.size := Nat.le_trans hN b2.sim.frm.size
  have hcond : a2.eval (.tmp 6) = .bool (decide ((i : Int) < (l'.length : Int))) := b2.at_ 6 q3
  show (Code.cond _ _ _).wp P _ a2 w2
  refine wp_cond hcond ?_
  by_cases hlt : i < l.length
  · rw [decide_eq_true (by omega : (i : Int) < (l'.length : Int)), if_pos rfl]
    refine wp_skip ?_
    show (Code.seq _ _).wp P _ a2 w2
    refine wp_seq (wp_mono (hbody w.heap.size B x w i l' a2 w2 hN2 (by omega) hh2 (by omega)) ?_)
    rintro e a3 w3 ⟨rfl, l3, hl3, hh3⟩
    have hN3 : w.heap.size ≤ w3.heap.size := hh3.stab.size
    show (Code.region 2 r2 false).wp P _ a3 w3
    refine wp_region ?_
    refine ops_read hT hh3.unf hh3.defers hh3.frel (n := r2.size) (js := []) (by simp) (Nat.le_refl _) k2 (e2 l3 (i : Int)) fun a4 w4 β4 σ4 b4 hK4 => ?_
    have hK4 := Option.some.inj hK4
    injection hK4 with p1 p2
    rw [wrap_succ (by omega)] at p2
    have hh4 := b4.head hN3 hh3 p1 p2
    refine ⟨⟨i + 1, l3, by omega, by omega, Nat.le_trans hN3 b4.sim.frm.size, hh4⟩, ?_⟩
    show l.length - numOf (a4.tmps.getD 2 undef) < l.length - numOf (a1.tmps.getD 2 undef)
    rw [hh4.s2, hh.s2]
    simp only [numOf, Int.toNat_natCast]
    omega
  · rw [decide_eq_false (by omega : ¬ (i : Int) < (l'.length : Int)), if_neg (by decide)]
    refine wp_exit ?_
    simp only [Exit.then, Exit.inBlock, if_true]
    refine ⟨hh2.defers, .tuple #[], ?_, rfl, hh2.stab, hh2.unf⟩
    unfold results
    simp [hres]

end
end

section
open Go.RowKit
set_option linter.unusedVariables false
set_option maxRecDepth 100000

def regs : Code → List (Array Oper)
  | .region _ ops _ => [ops]
  | .seq a b => regs a ++ regs b
  | .cond _ a b => regs a ++ regs b
  | .block _ c => regs c
  | .loop c => regs c
  | _ => []

noncomputable def f32.code : Code := (Func.body Try.f32).getD .skip
noncomputable def f56.code : Code := (Func.body Try.f56).getD .skip
noncomputable def r32 (i : Nat) : Array Oper := (regs f32.code).getD i #[]
noncomputable def r56 (i : Nat) : Array Oper := (regs f56.code).getD i #[]
noncomputable def E0 : Env := mkEnv tt [] [] [] [] 0

theorem f32.shape : f32.code = .seq (.region 0 (r32 0) false) (.block 0 (.loop (.seq (.seq (.region 1 (r32 1) false) (.cond (.tmp 6) .skip (.exit 0))) (.seq (.block 1 (.region 3 (r32 2) false)) (.region 2 (r32 3) false))))) := by kernel_rfl
theorem f56.shape : f56.code = .seq (.region 0 (r56 0) false) (.block 0 (.loop (.seq (.seq (.region 1 (r56 1) false) (.cond (.tmp 6) .skip (.exit 0))) (.seq (.block 1 (.seq (.region 3 (r56 2) false) (.region 4 (r56 3) false))) (.region 2 (r56 4) false))))) := by kernel_rfl

theorem f32.e3 (l : List Int) (i : Int) : evOps E0 noH 0 (r32 2) ((r32 2).toList.take 9) { fr := frA (.int .i64) l i 15, outs := [], mem := [] } (fun σ => some (σ.fr.length, σ.get 2, σ.get 17, σ.get 16)) =
    chk (decide ((0 : Int) ≤ i ∧ i < (l.length : Int))) (chk (decide ((0 : Int) ≤ i ∧ i < (l.length : Int))) (some (18, .int .i64 i, .rop [.int .i64 (rd (.int .i64) l i)], .int .i64 (Go.IntKind.i64.wrap ((-9 : Int) - (rd (.int .i64) l i).tmod 1000))))) := by kernel_rfl
theorem f32.o9 : (r32 2)[9]? = some ((r32 2).getD 9 default) ∧ ((r32 2).getD 9 default).op = .store 3 (.tmp 17) (.tmp 16) ∧ ((r32 2).getD 9 default).dst = none ∧ ((r32 2).getD 9 default).guard = none ∧ List.range (r32 2).size = List.range 9 ++ [9] := ⟨by kernel_rfl, by kernel_rfl, by kernel_rfl, by kernel_rfl, by kernel_rfl⟩

theorem wpOps_last {P : Program} {ops : Array Oper} {Q : Exit → Act → World → Prop} {k : Nat} {o : Oper} {a : Act} {w : World} (h0 : ops[k]? = some o) (hg : o.guard = none) (h : o.wp P a w (Q .normal) Q) : wpOps P ops Q [k] a w := by
  simp only [wpOps, h0]
  have hw : Region.wanted o (yielded ops a.tmps) = true := by simp [Region.wanted, hg]
  simp only [hw, if_true]
  exact .inl h

theorem f32.body : BodyOk Try.prog (.int .i64) 15 (.block 1 (.region 3 (r32 2) false)) := by
  intro N0 B x w0 i l a w hN hlen hh hi
  refine wp_block (wp_region ?_)
  have he : evOps E0 noH 0 (r32 2) ((r32 2).toList.take 9) { fr := frA (.int .i64) l (i : Int) 15, outs := [], mem := [] } (fun σ => some (σ.fr.length, σ.get 2, σ.get 17, σ.get 16)) = some (18, .int .i64 (i : Int), .rop [.int .i64 (rd (.int .i64) l (i : Int))], .int .i64 (Go.IntKind.i64.wrap ((-9 : Int) - (rd (.int .i64) l (i : Int)).tmod 1000))) := by
    rw [f32.e3, decide_eq_true (by omega : (0 : Int) ≤ (i : Int) ∧ (i : Int) < (l.length : Int)), kT, kT]
  obtain ⟨o1, o2, o3, o4, o5⟩ := f32.o9
  refine ops_read (E := E0) ttOk hh.unf hh.defers hh.frel (n := 9) (js := [9]) o5 (Nat.le_of_ble_eq_true (by kernel_rfl)) (by kernel_rfl) he fun a' w' β' σ' b hK => ?_
  have hK := Option.some.inj hK
  injection hK with q1 q
  injection q with q2 q
  injection q with q3 q4
  have hh2 := b.head hN hh q1 q2
  refine wpOps_last o1 o4 (store_int (E := E0) ttOk b hh.unf (by kernel_rfl) o2 o3 q3 (b.at_ 16 q4) fun w'' hs hu => ?_)
  obtain ⟨l', h1, h2, h3⟩ := stab_list hs (t := .int .i64) rfl hh2.data
  have hs' : IStab N0 B w' w'' := ⟨hs.os, hs.tape, hs.output, hs.size, fun g h3 h4 => hs.out g (Nat.lt_of_lt_of_le h3 hN) h4, hs.in_⟩
  exact ⟨rfl, l', h1, hh2.defers, hh2.size, hh2.s0, hh2.s2, hh2.stab.trans hs', hu, h2, h3 hh2.lens⟩

theorem nums32 : NumsOk Try.prog 32 (.int .i64) :=
  nums_ok (E := E0) ttOk (fn := Try.f32) (code := f32.code) (n := 15) (by kernel_rfl) (by kernel_rfl) (by kernel_rfl) (by kernel_rfl) (by kernel_rfl) f32.shape (by kernel_rfl) (by kernel_rfl) (by kernel_rfl)
    (fun l => by kernel_rfl) (fun l i => by kernel_rfl) (fun l i => by kernel_rfl) f32.body

theorem f56.e3 (l : List Pt) (i : Int) : evOps E0 noH 0 (r56 2) ((r56 2).toList.take 5) { fr := frA tP l i 16, outs := [], mem := [] } (fun σ => some (σ.fr.length, σ.get 2, σ.get 13)) =
    chk (decide ((0 : Int) ≤ i ∧ i < (l.length : Int))) (some (19, .int .i64 i, .ro (.int .i64) (rd tP l i).2)) := by kernel_rfl
theorem f56.e4 (l : List Pt) (i : Int) : evOps E0 noH 0 (r56 3) ((r56 3).toList.take 4) { fr := frA tP l i 16, outs := [], mem := [] } (fun σ => some (σ.fr.length, σ.get 2, σ.get 18)) =
    chk (decide ((0 : Int) ≤ i ∧ i < (l.length : Int))) (some (19, .int .i64 i, .rop [.int .i64 (rd tP l i).1, .ro (.int .i64) (rd tP l i).2])) := by kernel_rfl
theorem f56.o5 : (r56 2)[5]? = some ((r56 2).getD 5 default) ∧ (∃ ts, ((r56 2).getD 5 default).op = .call { callee := .value (.func 32), args := #[.tmp 13], argTypes := ts }) ∧ ((r56 2).getD 5 default).dst = some 14 ∧ ((r56 2).getD 5 default).guard = none ∧ List.range (r56 2).size = List.range 5 ++ [5] := ⟨by kernel_rfl, ⟨#[22], by kernel_rfl⟩, by kernel_rfl, by kernel_rfl, by kernel_rfl⟩
theorem f56.o4 : (r56 3)[4]? = some ((r56 3).getD 4 default) ∧ ((r56 3).getD 4 default).op = .store 3 (.tmp 18) (.const (.int .i64 (-3))) ∧ ((r56 3).getD 4 default).dst = none ∧ ((r56 3).getD 4 default).guard = none ∧ List.range (r56 3).size = List.range 4 ++ [4] := ⟨by kernel_rfl, by kernel_rfl, by kernel_rfl, by kernel_rfl, by kernel_rfl⟩

theorem f56.body : BodyOk Try.prog tP 16 (.block 1 (.seq (.region 3 (r56 2) false) (.region 4 (r56 3) false))) := by
  intro N0 B x w0 i l a w hN hlen hh hi
  refine wp_block (wp_seq (wp_region ?_))
  have he : evOps E0 noH 0 (r56 2) ((r56 2).toList.take 5) { fr := frA tP l (i : Int) 16, outs := [], mem := [] } (fun σ => some (σ.fr.length, σ.get 2, σ.get 13)) = some (19, .int .i64 (i : Int), .ro (.int .i64) (rd tP l (i : Int)).2) := by
    rw [f56.e3, decide_eq_true (by omega : (0 : Int) ≤ (i : Int) ∧ (i : Int) < (l.length : Int)), kT]
  obtain ⟨o1, ⟨ts, o2⟩, o3, o4, o5⟩ := f56.o5
  refine ops_read (E := E0) ttOk hh.unf hh.defers hh.frel (n := 5) (js := [5]) o5 (Nat.le_of_ble_eq_true (by kernel_rfl)) (by kernel_rfl) he fun a' w' β' σ' b hK => ?_
  have hK := Option.some.inj hK
  injection hK with q1 q
  injection q with q2 q3
  have hh2 := b.head hN hh q1 q2
  have hv : DRel (Free (frmOf (fun g => B g.2) w) σ'.mem β' w') w' (.list (.int .i64)) (rd tP l (i : Int)).2 [a'.eval (.tmp 13)] := b.at_ 13 q3
  have hin : ∀ g, g < w.heap.size → Free (frmOf (fun g => B g.2) w) σ'.mem β' w' (.int .i64, g) → B g := fun g h1 h2 => by
    by_cases h3 : B g
    · exact h3
    · exact absurd (.inr (.inl ⟨h1, h3⟩)) h2.2
  have hsub : ∀ g, B g → Free (frmOf (fun g => B g.2) w) σ'.mem β' w' (.int .i64, g) := fun g hg => by
    have hlt := (hh.unf g hg).1
    refine ⟨Nat.lt_of_lt_of_le hlt b.sim.frm.size, ?_⟩
    rintro (⟨e, L, h1, h2, h3⟩ | h1 | h1)
    · rcases b.sim.own e L h1 h2 with h4 | h4
      · have h5 : w.heap.size ≤ L.g := h4
        have h3 : L.g = g := h3
        omega
      · exact h4
    · exact h1.2 hg
    · have h2 : w.heap.size ≤ g := h1.1
      omega
  have hu1 : Unf (fun g => Free (frmOf (fun g => B g.2) w) σ'.mem β' w' (.int .i64, g)) w' := fun g hg => by
    refine ⟨hg.1, fun cs el fz hc => ?_⟩
    rcases Nat.lt_or_ge g w.heap.size with h1 | h1
    · exact (b.unf hh.unf g (hin g h1 hg)).2 cs el fz hc
    · by_cases h2 : fz = (0, 0)
      · exact h2
      · exact absurd (.inr (.inr ⟨h1, cs, el, fz, hc, h2⟩)) hg.2
  have hlen2 : (rd tP l (i : Int)).2.length < 4611686018427387904 := by
    have hi' : i < l.length := hi
    have h1 := List.all_eq_true.1 hh2.lens l[i] (List.getElem_mem hi')
    rw [rd_some (t := tP) (List.getElem?_eq_getElem hi')]
    simp only [lenB, Bool.and_eq_true] at h1
    exact of_decide_eq_true h1.2
  have hcall := nums32.2 (fun g => Free (frmOf (fun g => B g.2) w) σ'.mem β' w' (.int .i64, g)) w' (rd tP l (i : Int)).2 (a'.eval (.tmp 13)) hlen2 (List.all_eq_true.2 fun _ _ => rfl) hu1 (DRel.nest (B := Free (frmOf (fun g => B g.2) w) σ'.mem β' w') (B' := fun g => Free (frmOf (fun g => B g.2) w) σ'.mem β' w' (.int .i64, g.2)) (fun g hg => hg) (t := .list (.int .i64)) rfl hv)
  refine wpOps_last o1 o4 ?_
  have hex : (execOp a'.eval ((r56 2).getD 5 default)).run Try.prog w' = .ok (.enter 32 #[a'.eval (.tmp 13)]) w' := by
    have h1 := run_enter nums32.1 #[a'.eval (.tmp 13)] w'
    have hfx : a'.eval (.func 32) = .func (.func 32) #[] #[] := rfl
    simp only [execOp, o2, resolve, hfx, Deferred.ofValue, Sem.run_bind, Sem.run_pure, Result.andThen_ok, invoke, Array.empty_append]
    have e : (Array.map a'.eval #[Operand.tmp 13] ++ #[] : Array Value) = #[a'.eval (.tmp 13)] := by simp
    rw [e]
    exact h1
  unfold Oper.wp
  rw [hex]
  refine hcall.mono fun e w'' ⟨he2, hs, hu⟩ => ?_
  subst he2
  have hs' : IStab N0 B w' w'' := ⟨hs.os, hs.tape, hs.output, hs.size, fun g h3 h4 => hs.out g (Nat.lt_of_lt_of_le h3 (Nat.le_trans hN b.sim.frm.size)) fun h5 => h4 (hin g (Nat.lt_of_lt_of_le h3 hN) h5), fun g hg => hs.in_ g (hsub g hg)⟩
  have hu2 : Unf B w'' := fun g hg => hu g (hsub g hg)
  obtain ⟨l', h1, h2, h2l⟩ := stab_list hs' (t := tP) rfl hh2.data
  have hput : ∀ j, j ≠ 14 → (a'.put ((r56 2).getD 5 default).dst (.tuple #[])).tmps.getD j undef = a'.tmps.getD j undef := fun j hj => by
    rw [o3]
    show (a'.tmps.setIfInBounds 14 (.tuple #[])).getD j undef = _
    rw [Array.getD_eq_getD_getElem?, Array.getD_eq_getD_getElem?, Array.getElem?_setIfInBounds, if_neg (Ne.symm hj)]
  have hh3 : AtHead tP 16 N0 B x w0 i l' (a'.put ((r56 2).getD 5 default).dst (.tuple #[])) w'' := by
    refine ⟨by rw [put_defers]; exact hh2.defers, ?_, by rw [hput 0 (by decide)]; exact hh2.s0, by rw [hput 2 (by decide)]; exact hh2.s2, hh2.stab.trans hs', hu2, h2, h2l hh2.lens⟩
    rw [o3]
    show 16 + 3 ≤ (a'.tmps.setIfInBounds 14 (.tuple #[])).size
    rw [Array.size_setIfInBounds]
    exact hh2.size
  show (Code.region 4 (r56 3) false).wp Try.prog _ _ _
  refine wp_region ?_
  have hN3 : N0 ≤ w''.heap.size := Nat.le_trans (Nat.le_trans hN b.sim.frm.size) hs.size
  have he4 : evOps E0 noH 0 (r56 3) ((r56 3).toList.take 4) { fr := frA tP l' (i : Int) 16, outs := [], mem := [] } (fun σ => some (σ.fr.length, σ.get 2, σ.get 18)) = some (19, .int .i64 (i : Int), .rop [.int .i64 (rd tP l' (i : Int)).1, .ro (.int .i64) (rd tP l' (i : Int)).2]) := by
    rw [f56.e4, decide_eq_true (by omega : (0 : Int) ≤ (i : Int) ∧ (i : Int) < (l'.length : Int)), kT]
  obtain ⟨p1, p2, p3, p4, p5⟩ := f56.o4
  refine ops_read (E := E0) ttOk hh3.unf hh3.defers hh3.frel (n := 4) (js := [4]) p5 (Nat.le_of_ble_eq_true (by kernel_rfl)) (by kernel_rfl) he4 fun a4 w4 β4 σ4 b4 hK4 => ?_
  have hK4 := Option.some.inj hK4
  injection hK4 with q1 q
  injection q with q2 q3
  have hh4 := b4.head hN3 hh3 q1 q2
  refine wpOps_last p1 p4 (store_int (E := E0) ttOk b4 hh3.unf (by kernel_rfl) p2 p3 q3 rfl fun w5 hs5 hu5 => ?_)
  have hs5' : IStab N0 B w4 w5 := ⟨hs5.os, hs5.tape, hs5.output, hs5.size, fun g h3 h4 => hs5.out g (Nat.lt_of_lt_of_le h3 hN3) h4, hs5.in_⟩
  obtain ⟨l5, g1, g2, g3⟩ := stab_list hs5' (t := tP) rfl hh4.data
  exact ⟨rfl, l5, g1.trans h1, hh4.defers, hh4.size, hh4.s0, hh4.s2, hh4.stab.trans hs5', hu5, g2, g3 hh4.lens⟩

theorem nums56 : NumsOk Try.prog 56 tP :=
  nums_ok (E := E0) ttOk (fn := Try.f56) (code := f56.code) (n := 16) (by kernel_rfl) (by kernel_rfl) (by kernel_rfl) (by kernel_rfl) (by kernel_rfl) f56.shape (by kernel_rfl) (by kernel_rfl) (by kernel_rfl)
    (fun l => by kernel_rfl) (fun l i => by kernel_rfl) (fun l i => by kernel_rfl) f56.body

/-- Paths, written over: their own rows, and what lies in them. -/
theorem spoil56 : SpoilOk Try.prog 56 tP := by
  refine ⟨nums56.1, fun B w L l cs el x hne hlen hall hb hsz hfit hel hsl hL hu => ?_⟩
  have hent : EntOk ⟨[], fun _ => some L, fun g => B g.2, w⟩ 0 (.row tP l) := .inr ⟨L, cs, el, rfl, hb, hsz, hfit, hel⟩
  have hx := own_reads (S := ⟨[], fun _ => some L, fun g => B g.2, w⟩) (B' := fun g => B g.2 ∨ g.2 = L.g) (w' := w) (o := 0) (n := l.length) hent (by omega) hsl (fun g hg => .inl hg) (fun L' hL' => .inr (by injection hL' with hL'; rw [hL'])) (fun _ _ => rfl)
  rw [List.drop_zero, List.take_length] at hx
  refine (nums56.2 (fun g => B g ∨ g = L.g) w l x hlen hall (fun g hg => ?_) hx).mono fun e w' ⟨h1, h2, _⟩ => ⟨h1, h2.os, h2.tape, h2.output, h2.size, fun g g1 g2 g3 => h2.out g g1 fun hh => hh.elim g3 g2⟩
  rcases hg with hg | rfl
  · exact hu g hg
  · refine ⟨?_, fun cs' el' fz hc => ?_⟩
    · rcases Nat.lt_or_ge L.g w.heap.size with h1 | h1
      · exact h1
      · rw [Array.getElem?_eq_none h1] at hb; cases hb
    · rw [hb] at hc
      injection hc with hc
      injection hc with _ _ e3
      exact e3.symm
end

section
set_option maxRecDepth 100000
set_option linter.unusedVariables false
noncomputable def f11.E (k : Nat) : Env := mkEnv tt [(31, S31), (47, S47), (49, S49), (51, S51), (52, S52), (53, S53), (54, S54), (55, S55), (65, S65), (30, S30)] [(24, Try.f24), (34, Try.f34), (56, Try.f56), (32, Try.f32)] [(56, 1, [.kill (rg [(1, 1), (3, 18)]), .tidy]), (32, 1, [.kill (rg [(1, 1), (3, 17)]), .tidy])] [(56, 9344, (rg [(0, 0), (2, 10), (12, 145), (147, 152)])), (32, 263040, (rg [(1, 1), (3, 13), (15, 18)]))] k
noncomputable def f11.code : Go.Code := (Go.Func.body Try.f11).getD .skip
theorem f11.eq (k : Nat) (x0 : Int × List (Int × Int × Int)) (x1 : List Int) (x2 : Int) (x3 : Int) (x4 : Int) : evFnL (f11.E k) 9 51 S51x 56 tP 1 11 Try.f11 [(.agg [(.int .i64 (x0.fst)), (.ro (.pair (.int .i64) (.pair (.int .i64) (.int .i64))) (x0.snd))]), (.ro (.one (.one (.int .i64))) (x1)), (.int .i64 (x2)), (.int .i64 (x3)), (.int .i64 (x4))] =
  (chk (decide (x1.length * (8 : Nat) ≤ (140737488355328 : Nat))) (some (x1))).bind (fun y0 => chk (decide ((y0 ++ [(-7777 : Int), (-8888 : Int)]).length * (8 : Nat) ≤ (140737488355328 : Nat))) (chk (decide ((↑x1.length : Int) ≤ (↑(y0 ++ [(-7777 : Int), (-8888 : Int)]).length : Int))) ((routeXC ((x0, List.take ((↑x1.length : Int).toNat - (0 : Nat)) (List.drop (0 : Nat) (y0 ++ [(-7777 : Int), (-8888 : Int)])), x2, x3, x4))).bind (fun y1 => bif !capsMay x0 x1 then (bif y1.snd.snd == (1600 : Int) then (bif (↑y1.fst.length : Int) == (0 : Int) then (some (.bool ((↑y1.snd.fst.length : Int) == (0 : Int)))) else (some (.bool (false)))) else (some (.bool (false)))) else (bif decide (x2 < (0 : Int)) then (bif y1.snd.snd == (1600 : Int) then (bif (↑y1.fst.length : Int) == (0 : Int) then (some (.bool ((↑y1.snd.fst.length : Int) == (0 : Int)))) else (some (.bool (false)))) else (some (.bool (false)))) else (bif decide (x2 ≥ x0.fst) then (bif y1.snd.snd == (1600 : Int) then (bif (↑y1.fst.length : Int) == (0 : Int) then (some (.bool ((↑y1.snd.fst.length : Int) == (0 : Int)))) else (some (.bool (false)))) else (some (.bool (false)))) else (bif decide (x3 < (0 : Int)) then (bif y1.snd.snd == (1600 : Int) then (bif (↑y1.fst.length : Int) == (0 : Int) then (some (.bool ((↑y1.snd.fst.length : Int) == (0 : Int)))) else (some (.bool (false)))) else (some (.bool (false)))) else (bif decide (x3 ≥ x0.fst) then (bif y1.snd.snd == (1600 : Int) then (bif (↑y1.fst.length : Int) == (0 : Int) then (some (.bool ((↑y1.snd.fst.length : Int) == (0 : Int)))) else (some (.bool (false)))) else (some (.bool (false)))) else (bif x2 == x3 then (bif y1.snd.snd == (1600 : Int) then (bif (↑y1.fst.length : Int) == (0 : Int) then (some (.bool ((↑y1.snd.fst.length : Int) == (0 : Int)))) else (some (.bool (false)))) else (some (.bool (false)))) else (bif decide (x4 < (1 : Int)) then (bif y1.snd.snd == (1600 : Int) then (bif (↑y1.fst.length : Int) == (0 : Int) then (some (.bool ((↑y1.snd.fst.length : Int) == (0 : Int)))) else (some (.bool (false)))) else (some (.bool (false)))) else (bif decide (x4 > (4611686018427387904 : Int)) then (bif y1.snd.snd == (1600 : Int) then (bif (↑y1.fst.length : Int) == (0 : Int) then (some (.bool ((↑y1.snd.fst.length : Int) == (0 : Int)))) else (some (.bool (false)))) else (some (.bool (false)))) else (bif y1.snd.snd != (0 : Int) then (some (.bool (false))) else ((leastC ((x0, x1, x2, x3))).bind (fun y2 => bif decide (y2 < x4) then ((chk (decide (y1.snd.fst.length < (4611686018427387904 : Nat))) (some (proves x0 x1 x2 x3 x4 y1.snd.fst))).bind (fun y3 => bif y3.fst then (bif (↑y1.fst.length : Int) == (0 : Int) then (chk (decide ((0 : Int) ≤ (0 : Int) ∧ (0 : Int) ≤ Go.IntKind.i64.wrap ((↑((↑x1.length : Int).toNat - (0 : Nat)) : Int) + (2 : Int)))) (chk (decide (Go.IntKind.i64.wrap ((↑((↑x1.length : Int).toNat - (0 : Nat)) : Int) + (2 : Int)) ≤ (↑((y0 ++ [(-7777 : Int), (-8888 : Int)]).length - (0 : Nat)) : Int))) ((chk (decide ((List.take ((↑x1.length : Int).toNat - (0 : Nat)) (List.drop (0 : Nat) (y0 ++ [(-7777 : Int), (-8888 : Int)]))).length < (4611686018427387904 : Nat))) (some (sameB (List.take ((↑x1.length : Int).toNat - (0 : Nat)) (List.drop (0 : Nat) (y0 ++ [(-7777 : Int), (-8888 : Int)]))) x1))).bind (fun y4 => bif y4 then (chk (decide ((0 : Int) ≤ (↑x1.length : Int) ∧ (↑x1.length : Int) < (↑((Go.IntKind.i64.wrap ((↑((↑x1.length : Int).toNat - (0 : Nat)) : Int) + (2 : Int))).toNat - (0 : Nat)) : Int))) (bif rd (Ty.int Go.IntKind.i64) (y0 ++ [(-7777 : Int), (-8888 : Int)]) (↑((0 : Nat) + (↑x1.length : Int).toNat) : Int) == (-7777 : Int) then (chk (decide ((0 : Int) ≤ Go.IntKind.i64.wrap ((↑x1.length : Int) + (1 : Int)) ∧ Go.IntKind.i64.wrap ((↑x1.length : Int) + (1 : Int)) < (↑((Go.IntKind.i64.wrap ((↑((↑x1.length : Int).toNat - (0 : Nat)) : Int) + (2 : Int))).toNat - (0 : Nat)) : Int))) (some (.bool (rd (Ty.int Go.IntKind.i64) (y0 ++ [(-7777 : Int), (-8888 : Int)]) (↑((0 : Nat) + (Go.IntKind.i64.wrap ((↑x1.length : Int) + (1 : Int))).toNat) : Int) == (-8888 : Int))))) else (some (.bool (false))))) else (some (.bool (false))))))) else (some (.bool (false)))) else (some (.bool (false))))) else (bif (fitsOf x0 x1 y1.fst).snd != (0 : Int) then (some (.bool (false))) else (bif !(fitsOf x0 x1 y1.fst).fst then (some (.bool (false))) else (bif decide ((↑y1.snd.fst.length : Int) > (0 : Int)) then (some (.bool (false))) else (bif !mayB x0 x2 x3 x4 y1.fst then (some (.bool (false))) else (chk (decide ((0 : Nat) < y1.fst.length) && (decide (y1.fst.length < (4611686018427387904 : Nat)) && y1.fst.all (lenB tP))) (chk (decide ((0 : Int) ≤ (0 : Int) ∧ (0 : Int) ≤ Go.IntKind.i64.wrap ((↑((↑x1.length : Int).toNat - (0 : Nat)) : Int) + (2 : Int)))) (chk (decide (Go.IntKind.i64.wrap ((↑((↑x1.length : Int).toNat - (0 : Nat)) : Int) + (2 : Int)) ≤ (↑((y0 ++ [(-7777 : Int), (-8888 : Int)]).length - (0 : Nat)) : Int))) ((chk (decide ((List.take ((↑x1.length : Int).toNat - (0 : Nat)) (List.drop (0 : Nat) (y0 ++ [(-7777 : Int), (-8888 : Int)]))).length < (4611686018427387904 : Nat))) (some (sameB (List.take ((↑x1.length : Int).toNat - (0 : Nat)) (List.drop (0 : Nat) (y0 ++ [(-7777 : Int), (-8888 : Int)]))) x1))).bind (fun y3 => bif y3 then (chk (decide ((0 : Int) ≤ (↑x1.length : Int) ∧ (↑x1.length : Int) < (↑((Go.IntKind.i64.wrap ((↑((↑x1.length : Int).toNat - (0 : Nat)) : Int) + (2 : Int))).toNat - (0 : Nat)) : Int))) (bif rd (Ty.int Go.IntKind.i64) (y0 ++ [(-7777 : Int), (-8888 : Int)]) (↑((0 : Nat) + (↑x1.length : Int).toNat) : Int) == (-7777 : Int) then (chk (decide ((0 : Int) ≤ Go.IntKind.i64.wrap ((↑x1.length : Int) + (1 : Int)) ∧ Go.IntKind.i64.wrap ((↑x1.length : Int) + (1 : Int)) < (↑((Go.IntKind.i64.wrap ((↑((↑x1.length : Int).toNat - (0 : Nat)) : Int) + (2 : Int))).toNat - (0 : Nat)) : Int))) (some (.bool (rd (Ty.int Go.IntKind.i64) (y0 ++ [(-7777 : Int), (-8888 : Int)]) (↑((0 : Nat) + (Go.IntKind.i64.wrap ((↑x1.length : Int) + (1 : Int))).toNat) : Int) == (-8888 : Int))))) else (some (.bool (false))))) else (some (.bool (false)))))))))))))))))))))))))) := by kernel_rfl
theorem f11.inl (k : Nat) : InlOk Try.prog (f11.E k) := (inl_cons (by kernel_rfl) (by kernel_rfl) (inl_cons (by kernel_rfl) (by kernel_rfl) (inl_cons (by kernel_rfl) (by kernel_rfl) (inl_cons (by kernel_rfl) (by kernel_rfl) inl_nil))))
theorem f11.sums (k : Nat) : SumsOk Try.prog (f11.E k) := (sums_cons ok31 (sums_cons ok47 (sums_cons ok49 (sums_cons ok51 (sums_cons ok52 (sums_cons ok53 (sums_cons ok54 (sums_cons ok55 (sums_cons ok65 (sums_cons ok30 sums_nil))))))))))
end

section
open Go.ChangeShapes Go.WideShapes Go.RowKit
set_option linter.unusedVariables false
set_option maxRecDepth 100000

theorem mayB_lens {g : Gr} {src dst want : Int} {ps : List Pt} (h : mayB g src dst want ps = true) : (decide ((0 : Nat) < ps.length) && (decide (ps.length < (4611686018427387904 : Nat)) && ps.all (lenB tP))) = true := by
  have h0 := List.length_pos_iff.2 (mayB_some h)
  unfold mayB at h
  simp only [Bool.and_eq_true] at h
  have h1 := of_decide_eq_true h.2.2.1
  rw [decide_eq_true h0, decide_eq_true (by omega : ps.length < 4611686018427387904), Bool.true_and, Bool.true_and]
  refine List.all_eq_true.2 fun p hp => ?_
  have h2 := List.all_eq_true.1 h.2.2.2.1 p hp
  rw [Bool.and_eq_true] at h2
  have h3 := of_decide_eq_true (pathB_form h2.2).1
  simp only [lenB, Bool.true_and]
  exact decide_eq_true (by omega)

theorem law11_ev (d : Gr × (List Int × (Int × (Int × Int)))) (h : d.2.1.length * 8 ≤ reachBytes) :
    evFnL (f11.E 1) 9 51 S51x 56 tP 1 11 Try.f11 (encL [tG, .list cI, tI, tI, tI] d) = some (.bool true) := by
  obtain ⟨g, cs, src, dst, want⟩ := d
  refine (f11.eq _ g cs src dst want).trans ?_
  simp only [reachBytes] at h
  have h8 : cs.length * 8 ≤ 140737488351232 := by omega
  obtain ⟨x, x1, x2⟩ := routeXC_is (g, (cs, (src, (dst, want))))
  rw [chk_eq (decide_eq_true (by omega : cs.length * 8 ≤ 140737488355328)), bS, chk_eq (lend_a cs h8), chk_eq (lend_b cs), lend_take, x1, bS]
  unfold routeQ at x2
  dsimp only at x2
  cases hf : routeForm g cs src dst want with
  | false =>
    rw [hf, cF] at x2
    subst x2
    have e0 : ((1600 : Int) == 1600) = true := rfl
    have e1 : (((([] : List Pt).length : Nat) : Int) == 0) = true := rfl
    have e2 : (((([] : List Int).length : Nat) : Int) == 0) = true := rfl
    simp only [e0, e1, e2, cT]
    by_cases c1 : capsMay g cs = true
    · rw [c1, Bool.not_true, cF]
      by_cases c2 : src < 0
      · rw [decide_eq_true c2, cT]
      · rw [decide_eq_false c2, cF]
        by_cases c3 : src ≥ g.1
        · rw [decide_eq_true c3, cT]
        · rw [decide_eq_false c3, cF]
          by_cases c4 : dst < 0
          · rw [decide_eq_true c4, cT]
          · rw [decide_eq_false c4, cF]
            by_cases c5 : dst ≥ g.1
            · rw [decide_eq_true c5, cT]
            · rw [decide_eq_false c5, cF]
              by_cases c6 : src = dst
              · rw [show (src == dst) = true by simpa using c6, cT]
              · rw [show (src == dst) = false by simpa using c6, cF]
                by_cases c7 : want < 1
                · rw [decide_eq_true c7, cT]
                · rw [decide_eq_false c7, cF]
                  by_cases c8 : want > 4611686018427387904
                  · rw [decide_eq_true c8, cT]
                  · have hM : maxRate = 4611686018427387904 := rfl
                    unfold routeForm at hf
                    rw [c1, show hasV g.1 src = true from decide_eq_true (by omega), show hasV g.1 dst = true from decide_eq_true (by omega), show (src == dst) = false by simpa using c6, show (want == 0) = false by simp; omega, show rateB want = true from decide_eq_true (by omega)] at hf
                    cases hf
    · rw [Bool.not_eq_true] at c1
      rw [c1, Bool.not_false, cT]
  | true =>
    rw [hf, cT] at x2
    obtain ⟨x2, x3⟩ := x2
    have hM : maxRate = 4611686018427387904 := rfl
    unfold routeForm at hf
    simp only [Bool.and_eq_true, Bool.not_eq_true'] at hf
    obtain ⟨hc, hs, hd, hne, hw0, hm⟩ := hf
    have hs' : 0 ≤ src ∧ src < g.1 := of_decide_eq_true hs
    have hd' : 0 ≤ dst ∧ dst < g.1 := of_decide_eq_true hd
    have hm' : 0 ≤ want ∧ want ≤ maxRate := of_decide_eq_true hm
    have hw0' := ne_of_beq_false hw0
    obtain ⟨y, y1, y2⟩ := leastC_is hc hs' hd'
    have kept : (decide ((0 : Int) ≤ (0 : Int) ∧ (0 : Int) ≤ Go.IntKind.i64.wrap ((↑((↑cs.length : Int).toNat - (0 : Nat)) : Int) + (2 : Int)))) = true := by rw [lend_w cs h8]; exact lend_c cs
    have kept2 : decide (Go.IntKind.i64.wrap ((↑((↑cs.length : Int).toNat - (0 : Nat)) : Int) + (2 : Int)) ≤ (↑((cs ++ [(-7777 : Int), (-8888 : Int)]).length - (0 : Nat)) : Int)) = true := by rw [lend_w cs h8]; exact lend_d cs
    rw [hc, Bool.not_true, cF, decide_eq_false (by omega : ¬ src < 0), cF, decide_eq_false (by omega : ¬ src ≥ g.1), cF, decide_eq_false (by omega : ¬ dst < 0), cF, decide_eq_false (by omega : ¬ dst ≥ g.1), cF, hne, cF, decide_eq_false (by omega : ¬ want < 1), cF, decide_eq_false (by omega : ¬ want > 4611686018427387904), cF,
      x2, show ((0 : Int) != 0) = false by rfl, cF, y1, bS]
    rcases x3.either with ⟨v1, v2, v3, v4⟩ | ⟨v1, v2, v3⟩
    · have hle : ¬ y < want := fun hlt => by
        rcases y2.hit with e | ⟨us, u1, u2, u3⟩
        · omega
        · have := v4 us u1 u2
          omega
      rw [decide_eq_false hle, cF, v3, show ((0 : Int) != 0) = false by rfl, cF, Bool.not_true, cF, v1, show decide (((([] : List Int).length : Nat) : Int) > 0) = false by decide, cF, v2, Bool.not_true, cF, mayB_lens v2, kT, kept, kT, kept2, kT, chk_eq (decide_eq_true (by omega : cs.length < 4611686018427387904)), bS, sameB_iff.2 rfl, cT,
        lend_w cs h8, chk_eq (lend_e cs), lend_f, cT, lend_w1 cs h8, chk_eq (lend_g cs), lend_h]
    · obtain ⟨_, c1, c2⟩ := cutMay_parts v2
      have hlt : y < want := by
        have := y2.all _ c1 c2
        omega
      have hl := cut_len v2
      rw [decide_eq_true hlt, cT, chk_eq (decide_eq_true (by omega : x.2.1.length < 4611686018427387904)), bS, show proves g cs src dst want x.2.1 = (true, 0) by
        unfold proves
        rw [hc, cT, v2, decide_eq_true v3]
        rfl, cT, v1, show ((((([] : List Pt).length : Nat) : Int) == 0)) = true by rfl, cT, kept, kT, kept2, kT, chk_eq (decide_eq_true (by omega : cs.length < 4611686018427387904)), bS, sameB_iff.2 rfl, cT,
        lend_w cs h8, chk_eq (lend_e cs), lend_f, cT, lend_w1 cs h8, chk_eq (lend_g cs), lend_h]

/-- What a law may read: its rows of i64 as data of the second colour. -/
def lawB (w : World) : Ty × Nat → Prop := fun g => g.1 ≠ .int .i64 ∧ g.2 < w.heap.size

theorem law_args {W : World} {d : Gr × (List Int × (Int × (Int × Int)))} {xs : List Value} (h : All2 (V3 (cxP (allB W) W)) (encL [tG, tL, tI, tI, tI] d) xs) : All2 (V3 (cxP (lawB W) W)) (encL [tG, .list cI, tI, tI, tI] d) xs := by
  obtain ⟨g, cs, src, dst, want⟩ := d
  match xs, h with
  | [x0, x1, x2, x3, x4], ⟨h0, h1, h2, h3, h4, _⟩ =>
    refine ⟨?_, ?_, h2, h3, h4, trivial⟩
    · obtain ⟨ys, e, hy⟩ := (show ∃ ys, x0 = .agg ys ∧ All2 (V1 (cxP (allB W) W)) [.int .i64 g.1, .ro tLk g.2] ys.toList from h0)
      refine ⟨ys, e, ?_⟩
      match ys.toList, hy with
      | [y0, y1], ⟨k0, k1, _⟩ =>
        refine ⟨k0, ?_, trivial⟩
        obtain ⟨A, c, e, hc, hel⟩ := (show DRel (allB W) W (.list tLk) g.2 [y1] from k1)
        show DRel (lawB W) W (.list tLk) g.2 [y1]
        refine ⟨A, c, e, hc, fun i y hy => ?_⟩
        obtain ⟨ad, zs, e1, e2, e3, e4⟩ := hel i y hy
        exact ⟨ad, zs, e1, ⟨(by intro h; cases h), e2⟩, e3.flat rfl, e4⟩
    · obtain ⟨A, c, e, hc, hel⟩ := (show DRel (allB W) W (.list (.int .i64)) cs [x1] from h1)
      show DRel (lawB W) W (.list cI) cs [x1]
      refine ⟨A, c, e, hc, fun i y hy => ?_⟩
      obtain ⟨ad, zs, e1, e2, e3, e4⟩ := hel i y hy
      exact ⟨ad, zs, e1, ⟨(by intro h; cases h), e2⟩, e3, e4⟩

theorem law11_calls {H : Type} {enc' : TypeId × Value → H} {W : World} {base' : Nat} {args : Array Value} {ds : List (DataW H)} {p : List MemPlace}
    (hA : DataW.TrodAll enc' Try.prog W 0 (fun _ => true) true Try.f11.params.toList args.toList ds p)
    (hval : ∀ (j : Nat) t v, Try.f11.params[j]? = some t → args[j]? = some v → Value.okWide Try.prog W .any base' t v) (hsz : (DataW.weightsEach Try.prog Try.f11.params.toList ds).all (· ≤ reachBytes) = true) :
    Calls Try.prog 11 args W fun e W' => e = .returned (.bool true) ∧ Below W.heap.size W W' := by
  obtain ⟨d, hd, hw, hs, hld⟩ := args_rel (base' := base') (n := 12) Try.f11.params.toList [tG, tL, tI, tI, tI] hA (by kernel_rfl) (by kernel_rfl) fun j t v hj hv => hval j t v (by simpa using hj) (by simpa using hv)
  have hs' := hs hsz
  refine (evFnL_sound (E := f11.E 1) ttOk (f11.sums _) (f11.inl _) (fun C r H hH => drawOk hmix ttOk (f11.sums _) H hH) (fn := Try.f11) (code := f11.code) (by kernel_rfl) (by kernel_rfl) ok51x spoil56 rfl rfl (tc := 1) (by kernel_rfl) (law11_ev d hs'.2.1.1) (B := lawB W) (fun b hb => hb.2) (fun g hg => hg.1 rfl) (law_args hd) (cs0 := d.2.1) rfl).mono fun e W' ⟨y, hy, hret⟩ => ?_
  obtain ⟨hg, Ls, hL⟩ := hret
  have hv := hL.val 0
  have : y = .bool true := hv
  subst this
  exact ⟨hy, hg.os, hg.tape, hg.output, hg.size, hg.block⟩
end

end Go.Proofs.Ytiboikgoaihccaa.R
