/-
Operations, further: numbers, truth values, strings, pointers held against nil, functions, slices made.
-/
import Derived.Test.YtiboikgoaihccaaR14
import Derived.Laws.Strings
import Derived.Laws.Concat
import Derived.Laws.Pointers
import Derived.Laws.Small
namespace Go.Proofs.Ytiboikgoaihccaa.R
open Go.RowKit
set_option linter.unusedVariables false

section
variable {P : Program} {E : Env} {C : Frm} {β : Nat → Option Loc} {σ σ' : St} {a : Act} {as : List (Array Value)} {w : World} {o : Oper} {nm : Nat} {ty : TypeId} {bs : List Bool} {v : V}

theorem done_nilCheck (h : Sim C β σ (a.tmps :: as) w) {x : Operand} (hop : o.op = .nilCheck x) (hk : (∃ e i oo, σ.eval x = .ptr e i oo) ∨ (∃ cs, σ.eval x = .rop cs) ∨ ∃ f cs, σ.eval x = .fn f cs) : Done P C o a as w (σ.eval x) σ := by
  have h1 := h.eval x
  refine .same (x := a.eval x) h ?_ h1
  rcases hk with ⟨e, i, oo, hx⟩ | ⟨cs, hx⟩ | ⟨f, cs, hx⟩ <;> rw [hx] at h1
  · obtain ⟨E1, L, _, _, h2⟩ := h1
    cases E1 with
    | row t l => obtain ⟨_, _, h2⟩ := h2; simp only [execOp, hop, h2, Sem.run_pure]
    | box cs => obtain ⟨_, h2⟩ := h2; simp only [execOp, hop, h2, Sem.run_pure]
  · obtain ⟨ad, h2, _⟩ := h1; simp only [execOp, hop, h2, Sem.run_pure]
  · obtain ⟨ys, h2, _⟩ := h1; simp only [execOp, hop, h2, Sem.run_pure]

theorem str_beq (a b : ByteArray) : (a.toList == b.toList) = (a == b) := by
  rw [ByteArray.toList_eq, ByteArray.toList_eq]
  show _ = (a.data == b.data)
  rw [Bool.eq_iff_iff]; simp

/-- The value of an operation on two values. -/
theorem Done.bin (h : Sim C β σ (a.tmps :: as) w) {op : BinOp} {t : TypeId} {x y : Operand} {c : TypeId} {z : Value} (hop : o.op = .binOp op t x y c)
    (hg : (eqGuard op t x y (a.eval x) (a.eval y)).run P w = .ok () w) (hr : (binOp op t (a.eval x) (a.eval y)).run P w = .ok z w) (hv : V3 (cx C β σ w) v z) : Done P C o a as w v σ :=
  .same (x := z) h (by simp only [execOp, hop, Sem.run_bind, hg, hr, Result.andThen_ok, Sem.run_pure]) hv

theorem eqGuard_other {op : BinOp} {t : TypeId} {x y : Operand} {u v : Value} (h : ∀ xs, u ≠ .agg xs) (h' : u ≠ .nilIface) : (eqGuard op t x y u v).run P w = .ok () w := by
  unfold eqGuard
  cases op <;> simp only [] <;> (try rfl) <;> (cases u <;> first | rfl | exact absurd rfl h' | exact absurd rfl (h _))

theorem run_binI {op : BinOp} {t : TypeId} {k : IntKind} {n m : Int} (hA : binI op k n m σ = some (bs, v, σ')) (hbs : ∀ b ∈ bs, b = true) : σ' = σ ∧ ∃ z, (binOp op t (.int k n) (.int k m)).run P w = .ok z w ∧ ∀ S, V3 S v z := by
  cases op <;> simp only [binI, pureA, Option.some.injEq, Prod.mk.injEq, reduceCtorEq] at hA <;> obtain ⟨rfl, rfl, rfl⟩ := hA <;> refine ⟨rfl, _, ?_, fun S => rfl⟩
  all_goals first
    | (simp only [binOp, ne_eq, not_true_eq_false, if_false, Op.intArith, Op.intBits, Op.intCmp, bitsI, Sem.run_pure]; done)
    | (have hm : ¬ (m = 0) := by simpa using hbs _ (List.mem_cons_self ..)
       simp only [binOp, ne_eq, not_true_eq_false, if_false, Op.intDiv, hm, Sem.run_pure])
    | skip

theorem run_equal_ptr {t e : TypeId} {p q : Option Addr} (hu : P.underlying t = some (.pointer e)) (hpq : p = none ∨ q = none) : (Op.equal t (.pointer p) (.pointer q)).run P w = .ok (p.isNone && q.isNone) w := by
  have key : ∀ d, (Op.equalIn (d + 1) t (.pointer p) (.pointer q)).run P w = .ok (p.isNone && q.isNone) w := by
    intro d
    rcases hpq with rfl | rfl
    · simp [Op.equalIn, run_underlying hu]
    · cases p <;> simp [Op.equalIn, run_underlying hu]
  exact key 9999

theorem done_ptr (h : Sim C β σ (a.tmps :: as) w) {op : BinOp} {t c e : TypeId} {x y : Operand} {p q : Option Addr} (hop : o.op = .binOp op t x y c) (hu : P.underlying t = some (.pointer e)) (hx : a.eval x = .pointer p) (hy : a.eval y = .pointer q) (hpq : p = none ∨ q = none) :
    (op = .eql → Done P C o a as w (.bool (p.isNone && q.isNone)) σ) ∧ (op = .neq → Done P C o a as w (.bool (!(p.isNone && q.isNone))) σ) := by
  have hg : (eqGuard op t x y (a.eval x) (a.eval y)).run P w = .ok () w := by rw [hx]; exact eqGuard_other (by simp) (by simp)
  constructor <;> rintro rfl
  · refine Done.bin h hop hg (z := .bool (p.isNone && q.isNone)) ?_ rfl
    rw [hx, hy]
    simp only [binOp, Sem.run_bind, run_equal_ptr (w := w) hu hpq, Result.andThen_ok, Sem.run_pure]
  · refine Done.bin h hop hg (z := .bool (!(p.isNone && q.isNone))) ?_ rfl
    rw [hx, hy]
    simp only [binOp, Sem.run_bind, run_equal_ptr (w := w) hu hpq, Result.andThen_ok, Sem.run_pure]

theorem V0.ptr_some {S : Cx} {e i oo : Nat} {x : Value} (h : V0 S (.ptr e i oo) x) : ∃ ad, x = .pointer (some ad) := by
  obtain ⟨E1, L, _, _, h2⟩ := h
  cases E1 with
  | row t l => exact ⟨_, h2.2.2⟩
  | box cs => exact ⟨_, h2.2⟩

theorem done_binOp (hT : TtOk P E.tt) (h : Sim C β σ (a.tmps :: as) w) {op : BinOp} {t : TypeId} {x y : Operand} {c : TypeId} (hop : o.op = .binOp op t x y c) (hA : binA E op t (σ.eval x) (σ.eval y) σ = some (bs, v, σ')) (hbs : ∀ b ∈ bs, b = true) : Done P C o a as w v σ' := by
  have hx := h.eval x
  have hy := h.eval y
  unfold binA at hA
  split at hA
  · rename_i k n yk m ex ey
    rw [ex] at hx
    rw [ey] at hy
    have hx : a.eval x = .int k n := hx
    have hy : a.eval y = .int yk m := hy
    have hg : (eqGuard op t x y (a.eval x) (a.eval y)).run P w = .ok () w := by rw [hx]; exact eqGuard_other (by simp) (by simp)
    split at hA
    · simp only [Option.some.injEq, Prod.mk.injEq] at hA
      obtain ⟨rfl, rfl, rfl⟩ := hA
      have h0 : ¬ (m < 0) := by
        have := hbs _ (List.mem_cons_self ..)
        simpa using this
      refine Done.bin h hop hg (z := .int k (k.wrap (n * 2 ^ (min m.toNat k.bits)))) ?_ rfl
      rw [hx, hy]
      simp only [binOp, Op.shift, h0, if_false, Sem.run_pure]
    · simp only [Option.some.injEq, Prod.mk.injEq] at hA
      obtain ⟨rfl, rfl, rfl⟩ := hA
      have h0 : ¬ (m < 0) := by
        have := hbs _ (List.mem_cons_self ..)
        simpa using this
      refine Done.bin h hop hg (z := .int k (n.fdiv (2 ^ (min m.toNat k.bits)))) ?_ rfl
      rw [hx, hy]
      simp only [binOp, Op.shift, h0, if_false, Sem.run_pure]
    · split at hA
      · rename_i hk
        subst hk
        obtain ⟨rfl, z, hr, hz⟩ := run_binI (P := P) (w := w) (t := t) hA hbs
        exact Done.bin h hop hg (by rw [hx, hy]; exact hr) (hz _)
      · cases hA
  · rename_i p q ex ey
    rw [ex] at hx
    rw [ey] at hy
    have hx : a.eval x = .bool p := hx
    have hy : a.eval y = .bool q := hy
    have hg : (eqGuard op t x y (a.eval x) (a.eval y)).run P w = .ok () w := by rw [hx]; exact eqGuard_other (by simp) (by simp)
    split at hA
    · rename_i hk
      simp only [pureA, Option.some.injEq, Prod.mk.injEq] at hA
      obtain ⟨rfl, rfl, rfl⟩ := hA
      refine Done.bin h hop hg (z := .bool (p == q)) ?_ rfl
      rw [hx, hy]
      simp only [binOp, Sem.run_bind, run_equal_bool w t p q (hT.bool t hk), Result.andThen_ok, Sem.run_pure]
    · rename_i hk
      simp only [pureA, Option.some.injEq, Prod.mk.injEq] at hA
      obtain ⟨rfl, rfl, rfl⟩ := hA
      refine Done.bin h hop hg (z := .bool (!(p == q))) ?_ rfl
      rw [hx, hy]
      simp only [binOp, Sem.run_bind, run_equal_bool w t p q (hT.bool t hk), Result.andThen_ok, Sem.run_pure]
    · cases hA
  · rename_i p q ex ey
    rw [ex] at hx
    rw [ey] at hy
    have hx : a.eval x = .string p := hx
    have hy : a.eval y = .string q := hy
    have hg : (eqGuard op t x y (a.eval x) (a.eval y)).run P w = .ok () w := by rw [hx]; exact eqGuard_other (by simp) (by simp)
    split at hA
    · simp only [Option.some.injEq, Prod.mk.injEq] at hA
      obtain ⟨rfl, rfl, rfl⟩ := hA
      have h0 : p.size + q.size ≤ 9223372036854775807 := by
        have := hbs _ (List.mem_cons_self ..)
        simpa using this
      refine Done.bin h hop hg (z := .string (p ++ q)) ?_ rfl
      rw [hx, hy, binOp_string_add]
      exact run_string_add_sum w p q h0
    · simp only [pureA, Option.some.injEq, Prod.mk.injEq] at hA
      obtain ⟨rfl, rfl, rfl⟩ := hA
      refine Done.bin h hop hg (z := .bool (p == q)) ?_ rfl
      rw [hx, hy, binOp_string_eql, str_beq]; rfl
    · simp only [pureA, Option.some.injEq, Prod.mk.injEq] at hA
      obtain ⟨rfl, rfl, rfl⟩ := hA
      refine Done.bin h hop hg (z := .bool (!(p == q))) ?_ rfl
      rw [hx, hy, binOp_string_neq, str_beq]; rfl
    · cases hA
  · rename_i xs ys ex ey
    rw [ex] at hx
    rw [ey] at hy
    obtain ⟨us, hxs, hux⟩ := hx
    obtain ⟨vs, hys, hvy⟩ := hy
    split at hA
    · rename_i r hq hr
      simp only [pureA, Option.some.injEq, Prod.mk.injEq] at hA
      obtain ⟨rfl, rfl, rfl⟩ := hA
      have := (hT.eqs t hq (cx C β σ w) xs ys us vs r w hr hux hvy x y).1
      refine .same (x := .bool r) h ?_ rfl
      simp only [execOp, hop, hxs, hys]
      simp only [Sem.run_bind] at this ⊢
      rw [this]; rfl
    · rename_i r hq hr
      simp only [pureA, Option.some.injEq, Prod.mk.injEq] at hA
      obtain ⟨rfl, rfl, rfl⟩ := hA
      have := (hT.eqs t hq (cx C β σ w) xs ys us vs r w hr hux hvy x y).2
      refine .same (x := .bool (!r)) h ?_ rfl
      simp only [execOp, hop, hxs, hys]
      simp only [Sem.run_bind] at this ⊢
      rw [this]; rfl
    · cases hA
  · rename_i e i oo ex ey
    rw [ex] at hx
    rw [ey] at hy
    obtain ⟨ad, hx⟩ := V0.ptr_some hx
    have hy : a.eval y = .pointer none := hy
    split at hA
    · rename_i e' hk
      simp only [pureA, Option.some.injEq, Prod.mk.injEq] at hA
      obtain ⟨rfl, rfl, rfl⟩ := hA
      exact (done_ptr h hop (hT.ptr t _ hk) hx hy (.inr rfl)).1 rfl
    · rename_i e' hk
      simp only [pureA, Option.some.injEq, Prod.mk.injEq] at hA
      obtain ⟨rfl, rfl, rfl⟩ := hA
      exact (done_ptr h hop (hT.ptr t _ hk) hx hy (.inr rfl)).2 rfl
    · cases hA
  · rename_i e i oo ex ey
    rw [ex] at hx
    rw [ey] at hy
    obtain ⟨ad, hy⟩ := V0.ptr_some hy
    have hx : a.eval x = .pointer none := hx
    split at hA
    · rename_i e' hk
      simp only [pureA, Option.some.injEq, Prod.mk.injEq] at hA
      obtain ⟨rfl, rfl, rfl⟩ := hA
      exact (done_ptr h hop (hT.ptr t _ hk) hx hy (.inl rfl)).1 rfl
    · rename_i e' hk
      simp only [pureA, Option.some.injEq, Prod.mk.injEq] at hA
      obtain ⟨rfl, rfl, rfl⟩ := hA
      exact (done_ptr h hop (hT.ptr t _ hk) hx hy (.inl rfl)).2 rfl
    · cases hA
  · rename_i ex ey
    rw [ex] at hx
    rw [ey] at hy
    have hx : a.eval x = .pointer none := hx
    have hy : a.eval y = .pointer none := hy
    split at hA
    · rename_i e' hk
      simp only [pureA, Option.some.injEq, Prod.mk.injEq] at hA
      obtain ⟨rfl, rfl, rfl⟩ := hA
      exact (done_ptr h hop (hT.ptr t _ hk) hx hy (.inl rfl)).1 rfl
    · rename_i e' hk
      simp only [pureA, Option.some.injEq, Prod.mk.injEq] at hA
      obtain ⟨rfl, rfl, rfl⟩ := hA
      exact (done_ptr h hop (hT.ptr t _ hk) hx hy (.inl rfl)).2 rfl
    · cases hA
  · cases hA

theorem done_unOp (h : Sim C β σ (a.tmps :: as) w) {op : UnOp} {t : TypeId} {x : Operand} (hop : o.op = .unOp op t x) : (∀ b, op = .not → σ.eval x = .bool b → Done P C o a as w (.bool (!b)) σ) ∧ (∀ k n, op = .neg → σ.eval x = .int k n → Done P C o a as w (.int k (k.wrap (0 - n))) σ) := by
  have hx := h.eval x
  refine ⟨fun b ho hv => ?_, fun k n ho hv => ?_⟩ <;> rw [hv] at hx <;> subst ho
  · have hx : a.eval x = .bool b := hx
    refine .same (x := .bool (!b)) h ?_ rfl
    simp only [execOp, hop, hx, Op.unary, Sem.run_bind, Sem.run_pure, Result.andThen_ok]
  · have hx : a.eval x = .int k n := hx
    refine .same (x := .int k (k.wrap (0 - n))) h ?_ rfl
    simp only [execOp, hop, hx, Op.unary, Op.intArith, Sem.run_bind, Sem.run_pure, Result.andThen_ok]

theorem done_convert (hT : TtOk P E.tt) (h : Sim C β σ (a.tmps :: as) w) {s d : TypeId} {x : Operand} {k k' : IntKind} {n : Int} (hop : o.op = .convert s d x) (hk : (E.tt d).kind = .int k) (hs : ∃ u, P.underlying s = some u) (hv : σ.eval x = .int k' n) : Done P C o a as w (.int k (k.wrap n)) σ := by
  have hx := h.eval x
  rw [hv] at hx
  have hx : a.eval x = .int k' n := hx
  obtain ⟨u, hu⟩ := hs
  refine .same (x := .int k (k.wrap n)) h ?_ rfl
  simp only [execOp, hop, hx, convert, Sem.run_bind, run_underlying hu, run_underlying (hT.int d k hk), Result.andThen_ok, Conv.intToInt, Sem.run_pure]

theorem done_extract (h : Sim C β σ (a.tmps :: as) w) {x : Operand} {i : Nat} {vs : List V} (hop : o.op = .extract x i) (hv : σ.eval x = .tup vs) (hi : vs[i]? = some v) : Done P C o a as w v σ := by
  have hx := h.eval x
  rw [hv] at hx
  obtain ⟨ys, hx, ha⟩ := hx
  obtain ⟨y, hy, h2⟩ := ha.get hi
  refine .same (x := y) h ?_ (V3.of2 h2)
  simp only [Array.getElem?_toList] at hy
  simp only [execOp, hop, hx, Instr.extract, hy, Sem.run_bind, Sem.run_pure, Result.andThen_ok]

theorem done_len (hT : TtOk P E.tt) (h : Sim C β σ (a.tmps :: as) w) {c : Call} {t : TypeId} {x : Operand} {n : Int} (hop : o.op = .call c) (hc : c.callee = .builtin .len) (ht : c.argTypes.toList = [t]) (hargs : c.args.toList = [x])
    (hl : lenV σ (σ.eval x) = some n) (hk : (∃ e, (E.tt t).kind = .slice e ∧ ∀ s, σ.eval x ≠ .str s) ∨ ((E.tt t).kind = .str ∧ ∃ s, σ.eval x = .str s)) : Done P C o a as w (.int .i64 n) σ := by
  have hx := h.eval x
  have h1 : c.argTypes = #[t] := by rw [← Array.toList_inj, ht]
  have h2 : c.args = #[x] := by rw [← Array.toList_inj, hargs]
  have key : (Builtin.len_ #[t] o.type #[a.eval x]).run P w = .ok (.int .i64 n) w := by
    rcases hk with ⟨e, hk, hns⟩ | ⟨hk, s, hs⟩
    · have hu := hT.slice t e hk
      have hsl : ∃ A m c, a.eval x = .slice A m c ∧ (m : Int) = n := by
        unfold lenV at hl
        split at hl
        · rename_i hv; rw [hv] at hx
          obtain ⟨A, c, hx, _⟩ := hx
          injection hx with hx
          injection hl with hl
          exact ⟨A, _, c, hx, hl⟩
        · rename_i hv; rw [hv] at hx
          injection hl with hl
          exact ⟨none, 0, 0, hx, hl⟩
        · rename_i s hv; exact absurd hv (hns s)
        · rename_i en hv; rw [hv] at hx
          obtain ⟨t', l', hl', A, c, hx, _⟩ := hx
          have hl' : look σ.mem en = _ := hl'
          simp only [hl', Option.some.injEq] at hl
          exact ⟨A, _, c, hx, hl⟩
        · rename_i en oo m hv; rw [hv] at hx
          obtain ⟨t', l', _, _, ⟨A, c, hx, _⟩, _⟩ := hx
          injection hl with hl
          exact ⟨A, _, c, hx, hl⟩
        · cases hl
      obtain ⟨A, m, c', hx', hm⟩ := hsl
      rw [hx', ← hm]
      simp [Builtin.len_, run_underlying hu, goInt]
    · have hu := hT.str t hk
      rw [hs] at hx hl
      have hx : a.eval x = .string s := hx
      simp only [lenV, Option.some.injEq] at hl
      rw [hx, ← hl]
      simp [Builtin.len_, run_underlying hu, goInt]
  refine .same (x := .int .i64 n) h ?_ rfl
  simp only [execOp, hop, resolve, hc, h1, h2, Sem.run_bind, Sem.run_pure, Result.andThen_ok, invoke, builtin]
  have : (Array.map a.eval #[x]) = #[a.eval x] := by simp
  rw [this, key]
  rfl

theorem done_makeFunc (h : Sim C β σ (a.tmps :: as) w) {f : FuncId} {fst caps : Array Operand} (hop : o.op = .makeFunc (.func f) fst caps) (hf : fst.toList = []) (hc : ∀ x ∈ caps.toList, V0 (cx C β σ w) (σ.eval x) (a.eval x)) : Done P C o a as w (.fn f (caps.toList.map σ.eval)) σ := by
  have h1 : fst = #[] := by rw [← Array.toList_inj, hf]
  refine .same (x := .func (.func f) #[] (caps.map a.eval)) h ?_ (V3.of1 ⟨_, rfl, ?_⟩)
  · simp [execOp, hop, h1, Instr.makeFunc]
  · rw [Array.toList_map]
    revert hc
    generalize caps.toList = l
    intro hc
    induction l with
    | nil => exact trivial
    | cons x l ih => exact ⟨hc x (by simp), ih fun y hy => hc y (by simp [hy])⟩

end
end Go.Proofs.Ytiboikgoaihccaa.R
