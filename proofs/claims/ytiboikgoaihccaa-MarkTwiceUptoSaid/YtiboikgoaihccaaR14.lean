/-
append: all cases.
-/
import Derived.Test.YtiboikgoaihccaaR13
namespace Go.Proofs.Ytiboikgoaihccaa.R
open Go.RowKit
set_option linter.unusedVariables false

section
variable {P : Program} {E : Env} {C : Frm} {β : Nat → Option Loc} {σ σ' : St} {a : Act} {as : List (Array Value)} {w : World} {o : Oper} {nm : Nat} {ty : TypeId} {bs : List Bool} {v : V}

theorem Elems.mono {B B' : Nat → Prop} {t : Ty} {xs : List t.den} {news : List Value} (hB : ∀ g, B g → B' g)
    (h : ∀ (i : Nat) x, xs[i]? = some x → ∃ zs, DRel B w t x zs ∧ ∀ (j : Nat) z, zs[j]? = some z → news[i * t.size + j]? = some z) :
    ∀ (i : Nat) x, xs[i]? = some x → ∃ zs, DRel B' w t x zs ∧ ∀ (j : Nat) z, zs[j]? = some z → news[i * t.size + j]? = some z := by
  intro i x hx
  obtain ⟨zs, h1, h2⟩ := h i x hx
  exact ⟨zs, h1.mono hB (fun _ _ => rfl), h2⟩

theorem kill_free (h : Sim C β σ as w) (e : Nat) {g : Nat} (hg : Free C σ.mem β w g) : Free C (σ.kill e).mem β w g := by
  obtain ⟨h1, h2⟩ := hg
  refine ⟨h1, ?_⟩
  refine fun hoh => h2 (hoh.imp_left ?_)
  rintro ⟨e', L, h3, h4, h5⟩
  rw [look_kill] at h3
  by_cases he : e' = e
  · simp [he] at h3
  · simp only [he, if_false, Option.isSome_map] at h3
    exact ⟨e', L, h3, h4, h5⟩

theorem run_call_append {c : Call} {t t2 : TypeId} {s x : Operand} (hop : o.op = .call c) (hc : c.callee = .builtin .append) (ht : c.argTypes.toList = [t, t2]) (hargs : c.args.toList = [s, x]) {r : Value} {w' : World}
    (hr : (Builtin.append_ #[t, t2] o.type #[a.eval s, a.eval x]).run P w = .ok r w') : (execOp a.eval o).run P w = .ok (.value r) w' := by
  have h1 : c.argTypes = #[t, t2] := by rw [← Array.toList_inj, ht]
  have h2 : c.args = #[s, x] := by rw [← Array.toList_inj, hargs]
  simp only [execOp, hop, resolve, hc, h1, h2, Sem.run_bind, Sem.run_pure, Result.andThen_ok, invoke, builtin]
  have : (Array.map a.eval #[s, x]) = #[a.eval s, a.eval x] := by simp
  rw [this, hr]
  rfl

theorem join_elems {B : Nat → Prop} {t : Ty} {l xs : List t.den} {olds news : List Value} {z : Array Value} (ho : olds.length = l.length * t.size)
    (h1 : ∀ (i : Nat) x, l[i]? = some x → ∃ zs, DRel B w t x zs ∧ ∀ (j : Nat) z, zs[j]? = some z → olds[i * t.size + j]? = some z)
    (hn : news.length = xs.length * t.size)
    (h2 : ∀ (i : Nat) x, xs[i]? = some x → ∃ zs, DRel B w t x zs ∧ ∀ (j : Nat) z, zs[j]? = some z → news[i * t.size + j]? = some z) :
    ∀ (i : Nat) x, (l ++ xs)[i]? = some x → ∃ zs, DRel B w t x zs ∧ ∀ (j : Nat) y, zs[j]? = some y → (olds.toArray ++ news.toArray ++ z)[i * t.size + j]? = some y := by
  intro i x hx
  have key : ∀ (q : Nat) (y : Value), (olds ++ news)[q]? = some y → (olds.toArray ++ news.toArray ++ z)[q]? = some y := by
    intro q y hq
    have hlt := (List.getElem?_eq_some_iff.1 hq).1
    rw [Array.getElem?_append_left (by simpa using hlt), ← Array.getElem?_toList]
    simpa using hq
  by_cases hi : i < l.length
  · rw [List.getElem?_append_left hi] at hx
    obtain ⟨zs, hz, hc⟩ := h1 i x hx
    refine ⟨zs, hz, fun j y hj => key _ _ ?_⟩
    have := hc j y hj
    rw [List.getElem?_append_left (List.getElem?_eq_some_iff.1 this).1]
    exact this
  · rw [List.getElem?_append_right (by omega)] at hx
    obtain ⟨zs, hz, hc⟩ := h2 _ x hx
    refine ⟨zs, hz, fun j y hj => key _ _ ?_⟩
    have h3 : i * t.size = l.length * t.size + (i - l.length) * t.size := by rw [← Nat.add_mul]; congr 1; omega
    rw [List.getElem?_append_right (by omega), ← hc j y hj]
    congr 1
    omega

/-- Into a fresh block. -/
theorem done_append_out (hT : TtOk P E.tt) (h : Sim C β σ (a.tmps :: as) w) {c : Call} {t t2 e e2 : TypeId} {s x : Operand} {te : Ty} {l xs : List te.den} {A B : Option Addr} {cA cB : Nat} {olds news : List Value} (hop : o.op = .call c) (hc : c.callee = .builtin .append) (ht : c.argTypes.toList = [t, t2]) (hargs : c.args.toList = [s, x])
    (hk : (E.tt t).kind = .slice e) (hk2 : (E.tt t2).kind = .slice e2) (hty : (E.tt e).ty = some te) (hs : a.eval s = .slice B l.length cB) (hx : a.eval x = .slice A xs.length cA)
    (hlo : olds.length = l.length * te.size) (hco : ∀ (j : Nat) y, olds[j]? = some y → ∃ p, B = some p ∧ w.cell? (p.add j) = some y)
    (hel : ∀ (i : Nat) x, l[i]? = some x → ∃ zs, DRel (Free C σ.mem β w) w te x zs ∧ ∀ (j : Nat) z, zs[j]? = some z → olds[i * te.size + j]? = some z)
    (hln : news.length = xs.length * te.size) (hcn : ∀ (j : Nat) y, news[j]? = some y → ∃ p, A = some p ∧ w.cell? (p.add j) = some y)
    (hne : ∀ (i : Nat) x, xs[i]? = some x → ∃ zs, DRel (Free C σ.mem β w) w te x zs ∧ ∀ (j : Nat) z, zs[j]? = some z → news[i * te.size + j]? = some z)
    (hfull : cB < l.length + xs.length) (hb : 0 < (E.tt e).bytes) (hbytes : (l.length + xs.length) * (E.tt e).bytes ≤ 140737488355328) :
    Done P C o a as w (.slw nm) (σ.new nm (.row te (l ++ xs))) := by
  have hu := hT.slice t e hk
  have hu2 := hT.slice t2 e2 hk2
  obtain ⟨hsz, hts, _, hdf⟩ := hT.ty e te hty
  obtain ⟨i, z, hi, his, hib, hz, hzz⟩ := hT.info e hsz
  have hz1 := (hdf i z hi hz (fun _ => True) w).length
  have hisz : i.size = te.size := by rw [his, hts]
  have hr := run_append_out (P := P) (w := w) (tr := o.type) (A := A) (B := B) (c := cA) (sCap := cB) hu hu2 hi hz (by rw [hisz]; exact hlo) hco (by rw [hisz]; exact hln) hcn hfull (by rw [hib]; exact hbytes) (by omega)
  rw [← hs, ← hx] at hr
  refine done_row h (w1 := w.drew) (el := e) (n := l.length + xs.length) (c := grownCap w (l.length + xs.length) cB e) (Grows.drew w) (run_call_append hop hc ht hargs hr) (by simp) ?_ ?_ (join_elems hlo hel hln hne)
  · exact grownCap_ge w _ cB e
  · have hg := grownCap_ge w (l.length + xs.length) cB e
    have hzc : (Builtin.zeroCells z.cells (grownCap w (l.length + xs.length) cB e - (l.length + xs.length))).size = (grownCap w (l.length + xs.length) cB e - (l.length + xs.length)) * te.size := by
      simp only [Array.length_toList] at hz1
      simp [Builtin.zeroCells, hz1]
    simp only [Array.size_append, List.size_toArray, hlo, hln, hzc]
    rw [← Nat.add_mul, ← Nat.add_mul]
    congr 1
    omega

theorem done_append_own (hT : TtOk P E.tt) (h : Sim C β σ (a.tmps :: as) w) {c : Call} {t t2 e e2 : TypeId} {s x : Operand} {te : Ty} {l0 xs : List te.den} {en off n : Nat} (hop : o.op = .call c) (hc : c.callee = .builtin .append) (ht : c.argTypes.toList = [t, t2]) (hargs : c.args.toList = [s, x])
    (hk : (E.tt t).kind = .slice e) (hk2 : (E.tt t2).kind = .slice e2) (hty : (E.tt e).ty = some te) (hl : look σ.mem en = some (.row te l0)) (ho : off + n ≤ l0.length) (hs : SlAt (β en) te.size off n (a.eval s)) (hx : rowOf σ te (σ.eval x) = some xs)
    (hb : 0 < (E.tt e).bytes) (hbytes : ((l0.drop off).take n ++ xs).length * (E.tt e).bytes ≤ 140737488355328) :
    Done P C o a as w (.slw nm) (σ.repl en nm (.row te ((l0.drop off).take n ++ xs))) := by
  have hlen : ((l0.drop off).take n).length = n := by simp; omega
  have hu := hT.slice t e hk
  have hu2 := hT.slice t2 e2 hk2
  obtain ⟨hsz, hts, _, hdf⟩ := hT.ty e te hty
  obtain ⟨i, z, hi, his, hib, hz, hzz⟩ := hT.info e hsz
  have hisz : i.size = te.size := by rw [his, hts]
  obtain ⟨A, cA, hxe, hcA, hxel⟩ := rowOf_elems h (h.eval x) hx
  obtain ⟨news, hnl, hn1, hnc, hnel⟩ := elems_cells hxel
  have hrow := h.ent en _ hl
  obtain ⟨B, cB, hse, hcB, hsel⟩ := own_elems (S := cx C β σ w) hrow ho hs
  obtain ⟨olds, hol, ho1, hoc, hoel⟩ := elems_cells hsel
  rw [hlen] at hol
  have hbytes' : (n + xs.length) * (E.tt e).bytes ≤ 140737488355328 := by
    rw [List.length_append, hlen] at hbytes; exact hbytes
  have h0 : Sim C β (bif en == nm then σ else σ.kill en) (a.tmps :: as) w := by
    cases en == nm
    · exact h.kill en
    · exact h
  have h1 : Sim C β ((bif en == nm then σ else σ.kill en).kill nm) (a.tmps :: as) w := h0.kill nm
  have hF : ∀ g, Free C σ.mem β w g → Free C ((bif en == nm then σ else σ.kill en).kill nm).mem β w g := by
    intro g hg
    refine kill_free h0 nm ?_
    cases en == nm
    · exact kill_free h en hg
    · exact hg
  have hnew : ∀ X, ((bif en == nm then σ else σ.kill en).kill nm).new nm X = σ.repl en nm X := by
    intro X
    unfold St.new St.clear
    rw [look_kill_self]
    rfl
  by_cases hfull : cB < n + xs.length
  · rw [← hnew]
    obtain ⟨x', w', β', hr, hsim, hv⟩ := done_append_out (nm := nm) hT h1 hop hc ht hargs hk hk2 hty (by rw [hlen]; exact hse) hxe (by rw [hlen]; exact hol) hoc (Elems.mono hF hoel) hnl hnc (Elems.mono hF hnel) (by rw [hlen]; exact hfull) hb (by rw [hlen]; exact hbytes')
    exact ⟨x', w', β', hr, hsim, hv⟩
  · have hroom : n + xs.length ≤ cB := by omega
    obtain ⟨B', cB', hse', _, hcase⟩ := hs
    have heq := hse.symm.trans hse'
    injection heq with heB _ hec
    subst heB; subst hec
    rcases hcase with h0 | ⟨L, hL, hB, hfit⟩
    · -- nothing to nothing
      have hn0 : n = 0 := by omega
      have hx0 : xs.length = 0 := by omega
      have hxs : xs = [] := List.eq_nil_of_length_eq_zero hx0
      subst hxs
      subst hn0
      subst h0
      obtain ⟨h2, _⟩ := h1.newNil nm te
      have hr := run_append_nothing (P := P) (w := w) (tr := o.type) (sLen := 0) (sCap := 0) (c := cA) (B := B) (A := A) hu hu2 hi (Nat.le_refl _)
      have hr2 := run_call_append (a := a) hop hc ht hargs (P := P) (w := w) (r := .slice B 0 0) (w' := w) (by rw [hse, hxe]; exact hr)
      refine ⟨_, w, setβ β nm none, .inl hr2, ?_, V3.of0 ⟨te, [], ?_, B, 0, rfl, Nat.le_refl _, .inl rfl⟩⟩
      · have : (l0.drop off).take 0 ++ ([] : List te.den) = [] := by simp
        rw [this, ← hnew]
        exact h2
      · show look (σ.repl en nm _).mem nm = _
        rw [repl_look, if_pos rfl]
        simp
    · rcases hrow with ⟨h0, h3⟩ | ⟨L', cs, el, h3, h4, h5, h6, h7⟩
      · have h3 := hL.symm.trans h3; cases h3
      · have h3 := hL.symm.trans h3
        injection h3 with h3
        subst h3
        have hfit2 : L.base + (off + (n + xs.length)) * te.size ≤ L.cells := by
          have := Nat.mul_le_mul_right te.size (show off + (n + xs.length) ≤ off + cB from by omega)
          omega
        have h8 := h.inPlace (nm := nm) hl ho hL h4 h5 h7 hfit2 hnl hnel
        subst hB
        have hr := run_append_in (P := P) (w := w) (tr := o.type) (m := xs.length) (c := cA) (A := A) hu hu2 hi h4 (oo := L.base + off * te.size) (sLen := n) (sCap := cB) (news := news) (by rw [hisz]; exact hnl) hnc hn1 hroom (by
          rw [h5, hisz, hnl]
          rw [Nat.add_mul, Nat.add_mul] at hfit2
          omega)
        rw [← hse, ← hxe, hisz] at hr
        have hr2 := run_call_append (a := a) hop hc ht hargs hr
        refine ⟨_, _, _, .inl hr2, h8, V3.of0 ⟨te, _, by show look (σ.repl en nm _).mem nm = _; rw [repl_look, if_pos rfl], ?_⟩⟩
        refine ⟨_, cB, by rw [List.length_append, hlen], by rw [List.length_append, hlen]; exact hroom, .inr ⟨⟨L.g, L.base + off * te.size, L.cells⟩, by simp [setβ], by simp, ?_⟩⟩
        show L.base + off * te.size + (0 + cB) * te.size ≤ L.cells
        rw [Nat.add_mul] at hfit
        rw [Nat.zero_add]
        omega

theorem done_append (hT : TtOk P E.tt) (h : Sim C β σ (a.tmps :: as) w) {c : Call} {t t2 e2 : TypeId} {s x : Operand} (hop : o.op = .call c) (hc : c.callee = .builtin .append) (ht : c.argTypes.toList = [t, t2]) (hargs : c.args.toList = [s, x])
    (hk2 : (E.tt t2).kind = .slice e2) (hA : appendA E nm t (σ.eval s) (σ.eval x) σ = some (bs, v, σ')) (hbs : ∀ b ∈ bs, b = true) : Done P C o a as w v σ' := by
  unfold appendA at hA
  split at hA
  rotate_left
  · cases hA
  rename_i e hk
  split at hA
  rotate_left
  · cases hA
  rename_i te hty
  split at hA
  rotate_left
  · cases hA
  rename_i l e? xs hown hrow
  simp only [Option.some.injEq, Prod.mk.injEq] at hA
  obtain ⟨rfl, rfl, rfl⟩ := hA
  have hb : 0 < (E.tt e).bytes := by
    have := hbs _ (List.mem_cons_self ..)
    simpa using this
  have hbytes : (l ++ xs).length * (E.tt e).bytes ≤ 140737488355328 := by
    have := hbs _ (List.mem_cons_of_mem _ (List.mem_cons_self ..))
    simpa using this
  have hse := h.eval s
  unfold ownRow at hown
  split at hown
  · rename_i hsv
    simp only [Option.some.injEq, Prod.mk.injEq] at hown
    obtain ⟨rfl, rfl⟩ := hown
    rw [hsv] at hse
    have hse : a.eval s = .slice none 0 0 := hse
    have hu := hT.slice t e hk
    have hu2 := hT.slice t2 e2 hk2
    obtain ⟨hsz, hts, _, hdf⟩ := hT.ty e te hty
    obtain ⟨i, z, hi, his, hib, hz, hzz⟩ := hT.info e hsz
    obtain ⟨A, cA, hxe, hcA, hxel⟩ := rowOf_elems h (h.eval x) hrow
    obtain ⟨news, hnl, hn1, hnc, hnel⟩ := elems_cells hxel
    simp only [List.nil_append] at hbytes ⊢
    by_cases hx0 : xs.length = 0
    · have hxs : xs = [] := List.eq_nil_of_length_eq_zero hx0
      subst hxs
      obtain ⟨h2, _⟩ := h.newNil nm te
      have hr := run_append_nothing (P := P) (w := w) (tr := o.type) (sLen := 0) (sCap := 0) (c := cA) (B := none) (A := A) hu hu2 hi (Nat.le_refl _)
      have hr2 := run_call_append (a := a) hop hc ht hargs (P := P) (w := w) (r := .slice none 0 0) (w' := w) (by rw [hse, hxe]; exact hr)
      exact ⟨_, w, _, .inl hr2, h2, V3.of0 ⟨te, [], by simp [St.new, look_cons], none, 0, rfl, Nat.le_refl _, .inl rfl⟩⟩
    · have := done_append_out (nm := nm) (l := ([] : List te.den)) (olds := []) hT h hop hc ht hargs hk hk2 hty hse hxe (by simp) (by simp) (by simp) hnl hnc hnel (by simp; omega) hb (by simpa using hbytes)
      simpa using this
  · rename_i en hsv
    split at hown
    rotate_left
    · cases hown
    rename_i t' l' hl
    split at hown
    rotate_left
    · cases hown
    rename_i htt
    subst htt
    simp only [Option.some.injEq, Prod.mk.injEq] at hown
    obtain ⟨rfl, rfl⟩ := hown
    rw [hsv] at hse
    obtain ⟨t1, l1, hl1, hs⟩ := hse
    have := hl.symm.trans hl1
    injection this with this
    injection this with h1 h2
    subst h1
    have h2 := eq_of_heq h2
    subst h2
    have e1 : (l'.drop 0).take l'.length = l' := by simp
    have := done_append_own (nm := nm) hT h hop hc ht hargs hk hk2 hty hl (by omega : 0 + l'.length ≤ l'.length) hs hrow hb (by rw [e1]; exact hbytes)
    rw [e1] at this
    exact this
  · rename_i en off n hsv
    split at hown
    rotate_left
    · cases hown
    rename_i t' l' hl
    split at hown
    rotate_left
    · cases hown
    rename_i htt
    subst htt
    simp only [Option.some.injEq, Prod.mk.injEq] at hown
    obtain ⟨rfl, rfl⟩ := hown
    rw [hsv] at hse
    obtain ⟨t1, l1, hl1, ho, hs, _⟩ := hse
    have := hl.symm.trans hl1
    injection this with this
    injection this with h1 h2
    subst h1
    have h2 := eq_of_heq h2
    subst h2
    exact done_append_own (nm := nm) hT h hop hc ht hargs hk hk2 hty hl ho hs hrow hb hbytes
  · cases hown

end
end Go.Proofs.Ytiboikgoaihccaa.R
