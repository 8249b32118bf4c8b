/-
Operations, further: slices made and cut, places of fields and elements, least and greatest.
-/
import Derived.Test.YtiboikgoaihccaaR15
namespace Go.Proofs.Ytiboikgoaihccaa.R
open Go.RowKit
set_option linter.unusedVariables false

theorem Addr.add_add (a : Addr) (n m : Nat) : (a.add n).add m = a.add (n + m) := by
  unfold Addr.add
  by_cases hn : n = 0
  · subst hn; simp
  · by_cases hm : m = 0
    · subst hm; simp [hn]
    · simp [hn, hm]; omega

theorem Addr.add_block (a : Addr) (n : Nat) : (a.add n).block = a.block := by unfold Addr.add; split <;> rfl

section
variable {P : Program} {E : Env} {C : Frm} {β : Nat → Option Loc} {σ σ' : St} {a : Act} {as : List (Array Value)} {w : World} {o : Oper} {nm : Nat} {ty : TypeId} {bs : List Bool} {v : V}

theorem done_makeSlice (hT : TtOk P E.tt) (h : Sim C β σ (a.tmps :: as) w) {t e : TypeId} {x y : Operand} {te : Ty} {n m : Int} (hop : o.op = .makeSlice t x y) (hk : (E.tt t).kind = .slice e) (hty : (E.tt e).ty = some te) (hx : σ.eval x = .int .i64 n) (hy : σ.eval y = .int .i64 m)
    (h0 : 0 ≤ n ∧ n ≤ m) (h1 : 0 < (E.tt e).bytes ∧ m * (E.tt e).bytes ≤ 140737488355328) : Done P C o a as w (.slw nm) (σ.new nm (.row te (List.replicate n.toNat (dflt te)))) := by
  have hex := h.eval x
  have hey := h.eval y
  rw [hx] at hex
  rw [hy] at hey
  have hex : a.eval x = .int .i64 n := hex
  have hey : a.eval y = .int .i64 m := hey
  have hu := hT.slice t e hk
  obtain ⟨hsz, hts, _, hdf⟩ := hT.ty e te hty
  obtain ⟨i, z, hi, his, hib, hz, hzz⟩ := hT.info e hsz
  have hz1 := (hdf i z hi hz (fun _ => True) w).length
  have hisz : i.size = te.size := by rw [his, hts]
  obtain ⟨hbp, hbb⟩ := h1
  have hm47 : m ≤ 140737488355328 := by
    have : m * 1 ≤ m * ((E.tt e).bytes : Int) := Int.mul_le_mul_of_nonneg_left (by omega) (by omega)
    omega
  have hr := run_make (P := P) w t e i z hu hi hz .i64 .i64 n m h0.1 h0.2 (by rw [hib, Int.mul_comm]; omega) (by omega)
  refine done_row h (w1 := w) (el := e) (n := n.toNat) (c := m.toNat) (Grows.refl w) (ys := madeCells z.cells (m.toNat * i.size)) ?_ (by simp) (by omega) (by rw [size_madeCells, hisz]) ?_
  · simp only [execOp, hop, hex, hey, Sem.run_bind, hr, Result.andThen_ok, Sem.run_pure]
  · intro j x hx
    have hj : j < n.toNat ∧ x = dflt te := by
      rw [List.getElem?_replicate] at hx
      split at hx
      · rename_i hj; injection hx with hx; exact ⟨hj, hx.symm⟩
      · cases hx
    obtain ⟨hj, rfl⟩ := hj
    refine ⟨z.cells.toList, hdf i z hi hz _ _, fun q y hq => ?_⟩
    have hqs : q < te.size := by
      have := (List.getElem?_eq_some_iff.1 hq).1
      rw [hz1] at this; exact this
    have hzs : z.cells.size = te.size := by simpa using hz1
    have hlt : j * te.size + q < m.toNat * i.size := by
      rw [hisz]
      have := Nat.mul_le_mul_right te.size (show j + 1 ≤ m.toNat by omega)
      rw [Nat.add_mul] at this
      omega
    simp only [madeCells, Array.getElem?_map, Array.getElem?_range, hlt, if_true, Option.map_some]
    rw [hzs, show (j * te.size + q) % te.size = q from by rw [Nat.mul_comm, Nat.mul_add_mod, Nat.mod_eq_of_lt hqs]]
    simp only [Array.getElem?_toList] at hq
    simp [getElem!_def, hq]

theorem run_sliceBound {k : IntKind} {i : Int} {y : Nat} {code : BoundsCode} (h : 0 ≤ i ∧ i ≤ y) : (Instr.sliceBound (.int k i) y code).run P w = .ok i.toNat w := by
  simp [Instr.sliceBound, asIntOf, h]

/-- A bound, and what it is read from. -/
theorem bound_rel (h : Sim C β σ (a.tmps :: as) w) {x : Option Operand} {b : Option Int} (hb : bound σ x = some b) : (b = none ∧ x.map a.eval = none) ∨ ∃ k n, b = some n ∧ x.map a.eval = some (.int k n) := by
  cases x with
  | none => simp only [bound, Option.some.injEq] at hb; exact .inl ⟨hb.symm, rfl⟩
  | some x =>
    simp only [bound] at hb
    split at hb
    · rename_i k n hv
      injection hb with hb
      have := h.eval x
      rw [hv] at this
      have this : a.eval x = .int k n := this
      exact .inr ⟨k, n, hb.symm, by simp [this]⟩
    · cases hb

theorem run_bounds (h : Sim C β σ (a.tmps :: as) w) {x y : Option Operand} {lo hi : Option Int} {isSlice : Bool} {len cap : Nat} (hx : bound σ x = some lo) (hy : bound σ y = some hi) (hlc : len ≤ cap)
    (h1 : 0 ≤ lo.getD 0 ∧ lo.getD 0 ≤ hi.getD len) (h2 : hi.getD (len : Int) ≤ cap) : (Instr.sliceBounds isSlice len cap (x.map a.eval) (y.map a.eval) none).run P w = .ok ((lo.getD 0).toNat, (hi.getD (len : Int)).toNat, cap) w := by
  rcases bound_rel h hx with ⟨rfl, ex⟩ | ⟨k, n, rfl, ex⟩ <;> rcases bound_rel h hy with ⟨rfl, ey⟩ | ⟨k', m, rfl, ey⟩ <;> rw [ex, ey] <;> simp only [Option.getD_some, Option.getD_none] at h1 h2 ⊢
  · simp [Instr.sliceBounds]
  · simp [Instr.sliceBounds, run_sliceBound (P := P) (w := w) (k := k') (i := m) (y := cap) (by omega)]
  · simp [Instr.sliceBounds, run_sliceBound (P := P) (w := w) (k := k) (i := n) (y := len) (by omega)]
  · have hm : ((m.toNat : Nat) : Int) = m := by omega
    simp [Instr.sliceBounds, run_sliceBound (P := P) (w := w) (k := k') (i := m) (y := cap) (by omega), run_sliceBound (P := P) (w := w) (k := k) (i := n) (y := m.toNat) (by omega)]

theorem run_sliceStr (h : Sim C β σ (a.tmps :: as) w) {t : TypeId} {x y : Option Operand} {lo hi : Option Int} {s : ByteArray} (hu : P.underlying t = some .string) (hx : bound σ x = some lo) (hy : bound σ y = some hi)
    (h1 : 0 ≤ lo.getD 0 ∧ lo.getD 0 ≤ hi.getD (s.size : Int)) (h2 : hi.getD (s.size : Int) ≤ s.size) :
    (Instr.sliceAt t (.string s) (x.map a.eval) (y.map a.eval) none).run P w = .ok (.string (s.extract (lo.getD 0).toNat (hi.getD (s.size : Int)).toNat)) w := by
  have := run_bounds (P := P) (isSlice := false) (len := s.size) (cap := s.size) h hx hy (Nat.le_refl _) h1 h2
  simp [Instr.sliceAt, Instr.slice, run_underlying hu, this]

theorem run_sliceSl (h : Sim C β σ (a.tmps :: as) w) {t e : TypeId} {x y : Option Operand} {lo hi : Option Int} {A : Option Addr} {n c : Nat} {i : TypeInfo} (hu : P.underlying t = some (.slice e)) (hi' : P.info? e = some i) (hx : bound σ x = some lo) (hy : bound σ y = some hi) (hnc : n ≤ c)
    (h1 : 0 ≤ lo.getD 0 ∧ lo.getD 0 ≤ hi.getD (n : Int)) (h2 : hi.getD (n : Int) ≤ c) :
    (Instr.sliceAt t (.slice A n c) (x.map a.eval) (y.map a.eval) none).run P w = .ok (.slice (if c = (lo.getD 0).toNat then A else A.map (·.add ((lo.getD 0).toNat * i.size))) ((hi.getD (n : Int)).toNat - (lo.getD 0).toNat) (c - (lo.getD 0).toNat)) w := by
  have := run_bounds (P := P) (isSlice := true) (len := n) (cap := c) h hx hy hnc h1 h2
  simp [Instr.sliceAt, Instr.slice, run_underlying hu, this, sizeOf, typeInfo, hi']

/-- Of a row of the call's own. -/
theorem SlAt.cut {lo : Option Loc} {sz off n o' n' c : Nat} {A : Option Addr} (hs : SlAt lo sz off n (.slice A n c)) (ho : o' + n' ≤ c) : SlAt lo sz (off + o') n' (.slice (if c = o' then A else A.map (·.add (o' * sz))) n' (c - o')) := by
  obtain ⟨A', c', e, hc, h⟩ := hs
  injection e with e1 _ e2
  subst e1
  subst e2
  refine ⟨_, _, rfl, by omega, ?_⟩
  by_cases hco : c = o'
  · exact .inl (by omega)
  · rw [if_neg hco]
    rcases h with h0 | ⟨L, hL, hA, hfit⟩
    · exact .inl (by omega)
    · subst hA
      refine .inr ⟨L, hL, ?_, ?_⟩
      · simp only [Option.map_some, Option.some.injEq]
        unfold Addr.add
        split
        · rename_i hz; simp only [Addr.mk.injEq, true_and, and_true]; rw [Nat.add_mul, hz]; omega
        · simp only [Addr.mk.injEq, true_and, and_true]; rw [Nat.add_mul]; omega
      · rw [show off + o' + (c - o') = off + c from by omega]
        exact hfit

theorem DRel.cut {B : Nat → Prop} {t : Ty} {l : List t.den} {A : Option Addr} {c o' n' : Nat} (hs : DRel B w (.list t) l [.slice A l.length c]) (hc : l.length ≤ c) (ho : o' + n' ≤ l.length) : DRel B w (.list t) ((l.drop o').take n') [.slice (if c = o' then A else A.map (·.add (o' * t.size))) n' (c - o')] := by
  obtain ⟨A', c', e, _, h⟩ := hs
  injection e with e
  injection e with e1 _ e2
  subst e1
  subst e2
  have hlen : ((l.drop o').take n').length = n' := by simp; omega
  refine ⟨_, _, by rw [hlen], by omega, fun i x hx => ?_⟩
  have hi : i < n' := by
    have := (List.getElem?_eq_some_iff.1 hx).1
    omega
  rw [List.getElem?_take_of_lt hi, List.getElem?_drop] at hx
  obtain ⟨ad, zs, rfl, hb, hz, hcell⟩ := h _ x hx
  rw [if_neg (by omega)]
  refine ⟨_, zs, rfl, by rw [Addr.add_block]; exact hb, hz, fun j z hj => ?_⟩
  rw [Addr.add_add, ← hcell j z hj]
  congr 2
  rw [Nat.add_mul]; omega

theorem done_slice (hT : TtOk P E.tt) (h : Sim C β σ (a.tmps :: as) w) {t e : TypeId} {x : Operand} {y z : Option Operand} {lo hi : Option Int} (hop : o.op = .slice t x y z none) (hk : (E.tt t).kind = .slice e) (hy : bound σ y = some lo) (hz : bound σ z = some hi)
    (hA : sliceA (E.tt e).size (σ.eval x) lo hi σ = some (bs, v, σ')) (hbs : ∀ b ∈ bs, b = true) : Done P C o a as w v σ' := by
  have hx := h.eval x
  have hu := hT.slice t e hk
  have fin : ∀ {A : Option Addr} {n m c : Nat} {mk : Nat → Nat → V} {te : Ty}, te.size = (E.tt e).size → a.eval x = .slice A n c → n ≤ c → m ≤ c → cutA lo hi n m mk σ = some (bs, v, σ') →
      (∀ o' n', o' + n' ≤ m → V3 (cx C β σ w) (mk o' n') (.slice (if c = o' then A else A.map (·.add (o' * te.size))) n' (c - o'))) → Done P C o a as w v σ' := by
    intro A n m c mk te hts hxe hnc hmc hcut hmk
    simp only [cutA, Option.some.injEq, Prod.mk.injEq] at hcut
    obtain ⟨rfl, rfl, rfl⟩ := hcut
    have h1 : 0 ≤ lo.getD 0 ∧ lo.getD 0 ≤ hi.getD (n : Int) := by
      have := hbs _ (List.mem_cons_self ..)
      simpa using this
    have h2 : hi.getD (n : Int) ≤ m := by
      have := hbs _ (List.mem_cons_of_mem _ (List.mem_cons_self ..))
      simpa using this
    obtain ⟨i, z', hi', his, _⟩ := hT.info e (by rw [← hts]; have := te.size_pos; omega)
    have hr := run_sliceSl (P := P) (A := A) (c := c) h hu hi' hy hz hnc h1 (by omega)
    rw [his, ← hts] at hr
    refine .same h ?_ (hmk _ _ (by omega))
    simp only [execOp, hop, hxe, Option.map_none, Sem.run_bind, hr, Result.andThen_ok, Sem.run_pure]
  unfold sliceA at hA
  split at hA
  · rename_i te l hv
    cases hs : te.size == (E.tt e).size with
    | false => rw [hs] at hA; cases hA
    | true =>
      rw [hs, cond_true] at hA
      rw [hv] at hx
      have hx' : DRel (Free C σ.mem β w) w (.list te) l [a.eval x] := hx
      obtain ⟨A, c, hxe, hc, _⟩ := hx'
      injection hxe with hxe
      have hx' : DRel (Free C σ.mem β w) w (.list te) l [a.eval x] := hx
      rw [hxe] at hx'
      exact fin (te := te) (by simpa using hs) hxe hc hc hA fun o' n' ho => V3.of0 (hx'.cut hc ho)
  · rename_i en hv
    split at hA
    · rename_i te l hl
      cases hs : te.size == (E.tt e).size with
      | false => rw [hs] at hA; cases hA
      | true =>
        rw [hs, cond_true] at hA
        rw [hv] at hx
        obtain ⟨t1, l1, hl1, hsl⟩ := hx
        have := hl.symm.trans hl1
        injection this with this
        injection this with h1 h2
        subst h1
        have h2 := eq_of_heq h2
        subst h2
        have hsl' := hsl
        obtain ⟨A, c, hxe, hc, _⟩ := hsl'
        rw [hxe] at hsl
        refine fin (by simpa using hs) hxe hc hc hA fun o' n' ho => V3.of0 ⟨te, l, hl, by omega, ?_, _, _, _, rfl, by omega⟩
        have := hsl.cut (o' := o') (n' := n') (by omega)
        rw [Nat.zero_add] at this
        exact this
    · cases hA
  · rename_i en oo n hv
    split at hA
    · rename_i te l hl
      cases hs : te.size == (E.tt e).size with
      | false => rw [hs] at hA; cases hA
      | true =>
        rw [hs, cond_true] at hA
        rw [hv] at hx
        obtain ⟨t1, l1, hl1, ho1, hsl, hcap⟩ := hx
        have := hl.symm.trans hl1
        injection this with this
        injection this with h1 h2
        subst h1
        have h2 := eq_of_heq h2
        subst h2
        have hsl' := hsl
        obtain ⟨A, c, hxe, hc, _⟩ := hsl'
        rw [hxe] at hsl
        rw [hxe] at hcap
        obtain ⟨_, _, _, hcx, hcap⟩ := hcap
        injection hcx with _ _ hcx
        subst hcx
        exact fin (by simpa using hs) hxe hc hcap hA fun o' n' ho => V3.of0 ⟨te, l, hl, by omega, hsl.cut (by omega), _, _, _, rfl, by omega⟩
    · cases hA
  · cases hA

theorem done_sliceStr (hT : TtOk P E.tt) (h : Sim C β σ (a.tmps :: as) w) {t : TypeId} {x : Operand} {y z : Option Operand} {lo hi : Option Int} {s : ByteArray} (hop : o.op = .slice t x y z none) (hk : (E.tt t).kind = .str) (hy : bound σ y = some lo) (hz : bound σ z = some hi) (hv : σ.eval x = .str s)
    (hA : sliceStr s lo hi σ = some (bs, v, σ')) (hbs : ∀ b ∈ bs, b = true) : Done P C o a as w v σ' := by
  have hx := h.eval x
  rw [hv] at hx
  have hx : a.eval x = .string s := hx
  simp only [sliceStr, Option.some.injEq, Prod.mk.injEq] at hA
  obtain ⟨rfl, rfl, rfl⟩ := hA
  have h1 : 0 ≤ lo.getD 0 ∧ lo.getD 0 ≤ hi.getD (s.size : Int) := by
    have := hbs _ (List.mem_cons_self ..)
    simpa using this
  have h2 : hi.getD (s.size : Int) ≤ s.size := by
    have := hbs _ (List.mem_cons_of_mem _ (List.mem_cons_self ..))
    simpa using this
  have hr := run_sliceStr (P := P) h (hT.str t hk) hy hz h1 h2
  refine .same (x := .string (s.extract (lo.getD 0).toNat (hi.getD (s.size : Int)).toNat)) h ?_ rfl
  simp only [execOp, hop, hx, Option.map_none, Sem.run_bind, hr, Result.andThen_ok, Sem.run_pure]

/-- An empty part without room. -/
theorem done_slice0 (hT : TtOk P E.tt) (h : Sim C β σ (a.tmps :: as) w) {t e : TypeId} {te : Ty} {x m : Operand} {y z : Option Operand} {lo : Option Int} (hop : o.op = .slice t x y z (some m)) (hk : (E.tt t).kind = .slice e) (hty : (E.tt e).ty = some te) (hy : bound σ y = some lo) (hz : bound σ z = some (some 0)) (hm : bound σ (some m) = some (some 0))
    (hx : isSl (σ.eval x) = true) (hlo : lo.getD 0 = 0) : Done P C o a as w (.slw nm) (σ.new nm (.row te [])) := by
  have hxe := h.eval x
  have hu := hT.slice t e hk
  obtain ⟨hsz, _⟩ := hT.ty e te hty
  obtain ⟨i, z', hi', _⟩ := hT.info e hsz
  have hsl : ∃ A n c, a.eval x = .slice A n c ∧ n ≤ c := by
    cases hv : σ.eval x <;> rw [hv] at hx hxe <;> simp only [isSl, Bool.false_eq_true] at hx
    · obtain ⟨A, c, e1, hc, _⟩ := hxe; injection e1 with e1; exact ⟨A, _, c, e1, hc⟩
    · exact ⟨none, 0, 0, hxe, Nat.le_refl _⟩
    · obtain ⟨t1, l, _, A, c, e1, hc, _⟩ := hxe; exact ⟨A, _, c, e1, hc⟩
    · obtain ⟨t1, l, _, _, ⟨A, c, e1, hc, _⟩, _⟩ := hxe; exact ⟨A, _, c, e1, hc⟩
  obtain ⟨A, n, c, hxv, hnc⟩ := hsl
  obtain ⟨h2, _⟩ := h.newNil nm te
  have hr : (Instr.sliceAt t (.slice A n c) (y.map a.eval) (z.map a.eval) (some (a.eval m))).run P w = .ok (.slice A 0 0) w := by
    rcases bound_rel h hz with ⟨hh, _⟩ | ⟨k, q, hh, ez⟩
    · cases hh
    · injection hh with hh
      subst hh
      rcases bound_rel h hm with ⟨hh, _⟩ | ⟨k2, q2, hh, em⟩
      · cases hh
      · injection hh with hh
        subst hh
        simp only [Option.map_some, Option.some.injEq] at em
        rw [ez, em]
        have b0 : ∀ (k : IntKind) (cap : Nat) (code : BoundsCode), (Instr.sliceBound (.int k 0) cap code).run P w = .ok 0 w := fun k cap code => run_sliceBound (P := P) (w := w) (by omega)
        rcases bound_rel h hy with ⟨rfl, ey⟩ | ⟨k3, q3, rfl, ey⟩
        · rw [ey]
          simp [Instr.sliceAt, Instr.slice, run_underlying hu, Instr.sliceBounds, b0, sizeOf, typeInfo, hi']
        · rw [ey]
          simp only [Option.getD_some] at hlo
          subst hlo
          simp [Instr.sliceAt, Instr.slice, run_underlying hu, Instr.sliceBounds, b0, sizeOf, typeInfo, hi']
  refine ⟨.slice A 0 0, w, _, .inl ?_, h2, V3.of0 ⟨te, [], by simp [St.new, look_cons], A, 0, rfl, Nat.le_refl _, .inl rfl⟩⟩
  simp only [execOp, hop, hxv, Option.map_some, Sem.run_bind, hr, Result.andThen_ok, Sem.run_pure]

theorem run_clip (h : Sim C β σ (a.tmps :: as) w) {t e : TypeId} {m : Operand} {y z : Option Operand} {lo : Option Int} {b c' : Int} {A : Option Addr} {n c : Nat} {i : TypeInfo} (hu : P.underlying t = some (.slice e)) (hi' : P.info? e = some i) (hy : bound σ y = some lo) (hz : bound σ z = some (some b)) (hm : bound σ (some m) = some (some c'))
    (hlo : lo.getD 0 = 0) (hb : b = n) (hc : c' = n) (hnc : n ≤ c) :
    (Instr.sliceAt t (.slice A n c) (y.map a.eval) (z.map a.eval) (some (a.eval m))).run P w = .ok (.slice (if n = 0 then A else A.map (·.add 0)) n n) w := by
  rcases bound_rel h hz with ⟨hh, _⟩ | ⟨k, q, hh, ez⟩
  · cases hh
  injection hh with hh
  subst hh
  rcases bound_rel h hm with ⟨hh, _⟩ | ⟨k2, q2, hh, em⟩
  · cases hh
  injection hh with hh
  subst hh
  simp only [Option.map_some, Option.some.injEq] at em
  rw [ez, em]
  have hq : b.toNat = n := by omega
  have hq2 : c'.toNat = n := by omega
  have b1 := fun (code : BoundsCode) => run_sliceBound (P := P) (w := w) (k := k2) (i := c') (y := c) (code := code) (by omega)
  have b2 := fun (code : BoundsCode) => run_sliceBound (P := P) (w := w) (k := k) (i := b) (y := n) (code := code) (by omega)
  rcases bound_rel h hy with ⟨rfl, ey⟩ | ⟨k3, q3, rfl, ey⟩
  · rw [ey]
    simp [Instr.sliceAt, Instr.slice, run_underlying hu, Instr.sliceBounds, b1, b2, hq, hq2, sizeOf, typeInfo, hi']
  · rw [ey]
    simp only [Option.getD_some] at hlo
    subst hlo
    have b0 : ∀ (k : IntKind) (cap : Nat) (code : BoundsCode), (Instr.sliceBound (.int k 0) cap code).run P w = .ok 0 w := fun k cap code => run_sliceBound (P := P) (w := w) (by omega)
    simp [Instr.sliceAt, Instr.slice, run_underlying hu, Instr.sliceBounds, b0, b1, b2, hq, hq2, sizeOf, typeInfo, hi']

theorem SlAt.clip {lo : Option Loc} {sz off n c : Nat} {A : Option Addr} (hs : SlAt lo sz off n (.slice A n c)) : SlAt lo sz off n (.slice (if n = 0 then A else A.map (·.add 0)) n n) := by
  have := hs.cut (o' := 0) (n' := n) (by obtain ⟨A', c', e, hc, h⟩ := hs; injection e with e1 _ e2; omega)
  obtain ⟨A', c', e, hc, h⟩ := hs
  injection e with e1 _ e2
  subst e1
  subst e2
  refine ⟨_, _, rfl, Nat.le_refl _, ?_⟩
  by_cases hn : n = 0
  · exact .inl hn
  · rw [if_neg hn]
    rcases h with h0 | ⟨L, hL, hA, hfit⟩
    · exact .inl (by omega)
    · subst hA
      refine .inr ⟨L, hL, ?_, ?_⟩
      · simp [Addr.add]
      · exact Nat.le_trans (Nat.add_le_add_left (Nat.mul_le_mul_right _ (by omega)) _) hfit

theorem done_clip (hT : TtOk P E.tt) (h : Sim C β σ (a.tmps :: as) w) {t e : TypeId} {x m : Operand} {y z : Option Operand} {lo : Option Int} {b c' : Int} (hop : o.op = .slice t x y z (some m)) (hk : (E.tt t).kind = .slice e) (hy : bound σ y = some lo) (hz : bound σ z = some (some b)) (hm : bound σ (some m) = some (some c'))
    (hA : clipA (E.tt e).size (σ.eval x) lo b c' σ = some (bs, v, σ')) (hbs : ∀ b ∈ bs, b = true) : Done P C o a as w v σ' := by
  have hx := h.eval x
  have hu := hT.slice t e hk
  unfold clipA at hA
  split at hA
  · rename_i hv
    rw [hv] at hx
    have hx : a.eval x = .slice none 0 0 := hx
    simp only [Option.some.injEq, Prod.mk.injEq] at hA
    obtain ⟨rfl, rfl, rfl⟩ := hA
    simp only [List.mem_cons, List.not_mem_nil, or_false, forall_eq_or_imp, forall_eq, decide_eq_true_eq] at hbs
    obtain ⟨h0, h1, h2, h3⟩ := hbs
    obtain ⟨i, z', hi, _⟩ := hT.info e (by have h0 : 0 < (E.tt e).size := by simpa using h0
                                           omega)
    rcases bound_rel h hz with ⟨hh, _⟩ | ⟨k, q, hh, ez⟩
    · cases hh
    injection hh with hh
    subst hh
    rcases bound_rel h hm with ⟨hh, _⟩ | ⟨k2, q2, hh, em⟩
    · cases hh
    injection hh with hh
    subst hh
    subst h2
    subst h3
    simp only [Option.map_some, Option.some.injEq] at em
    have b0 : ∀ (k : IntKind) (cap : Nat) (code : BoundsCode), (Instr.sliceBound (.int k 0) cap code).run P w = .ok 0 w := fun k cap code => run_sliceBound (P := P) (w := w) (by omega)
    have hr : (Instr.sliceAt t (.slice none 0 0) (y.map a.eval) (z.map a.eval) (some (a.eval m))).run P w = .ok (.slice none 0 0) w := by
      rw [ez, em]
      rcases bound_rel h hy with ⟨rfl, ey⟩ | ⟨k3, q3, rfl, ey⟩
      · rw [ey]
        simp [Instr.sliceAt, Instr.slice, run_underlying hu, Instr.sliceBounds, b0, sizeOf, typeInfo, hi]
      · rw [ey]
        simp only [Option.getD_some] at h1
        subst h1
        simp [Instr.sliceAt, Instr.slice, run_underlying hu, Instr.sliceBounds, b0, sizeOf, typeInfo, hi]
    refine .same (x := .slice none 0 0) h ?_ rfl
    simp only [execOp, hop, hx, Option.map_some, Sem.run_bind, hr, Result.andThen_ok, Sem.run_pure]
  · rename_i en hv
    split at hA
    · rename_i te l hl
      cases hs : te.size == (E.tt e).size with
      | false => rw [hs] at hA; cases hA
      | true =>
      rw [hs, cond_true] at hA
      have hs : te.size = (E.tt e).size := by simpa using hs
      simp only [Option.some.injEq, Prod.mk.injEq] at hA
      obtain ⟨rfl, rfl, rfl⟩ := hA
      simp only [List.mem_cons, List.not_mem_nil, or_false, forall_eq_or_imp, forall_eq, decide_eq_true_eq] at hbs
      obtain ⟨h1, h2, h3⟩ := hbs
      rw [hv] at hx
      obtain ⟨t1, l1, hl1, hsl⟩ := hx
      have := hl.symm.trans hl1
      injection this with this
      injection this with h4 h5
      subst h4
      have h5 := eq_of_heq h5
      subst h5
      have hsl' := hsl
      obtain ⟨A, c, hxe, hc, _⟩ := hsl'
      rw [hxe] at hsl
      obtain ⟨i, z', hi', his, _⟩ := hT.info e (by rw [← hs]; have := te.size_pos; omega)
      have hr := run_clip (P := P) (A := A) h hu hi' hy hz hm h1 h2 h3 hc
      refine .same h ?_ (V3.of0 (v := .slw en) ⟨te, l, hl, hsl.clip⟩)
      simp only [execOp, hop, hxe, Option.map_some, Sem.run_bind, hr, Result.andThen_ok, Sem.run_pure]
    · cases hA
  · rename_i en oo n hv
    split at hA
    · rename_i te l hl
      cases hs : te.size == (E.tt e).size with
      | false => rw [hs] at hA; cases hA
      | true =>
      rw [hs, cond_true] at hA
      have hs : te.size = (E.tt e).size := by simpa using hs
      simp only [Option.some.injEq, Prod.mk.injEq] at hA
      obtain ⟨rfl, rfl, rfl⟩ := hA
      simp only [List.mem_cons, List.not_mem_nil, or_false, forall_eq_or_imp, forall_eq, decide_eq_true_eq] at hbs
      obtain ⟨h1, h2, h3⟩ := hbs
      rw [hv] at hx
      have hx0 := hx
      obtain ⟨t1, l1, hl1, ho1, hsl, _⟩ := hx
      have := hl.symm.trans hl1
      injection this with this
      injection this with h4 h5
      subst h4
      have h5 := eq_of_heq h5
      subst h5
      have hsl' := hsl
      obtain ⟨A, c, hxe, hc, _⟩ := hsl'
      obtain ⟨i, z', hi', his, _⟩ := hT.info e (by rw [← hs]; have := te.size_pos; omega)
      have hr := run_clip (P := P) (A := A) h hu hi' hy hz hm h1 h2 h3 hc
      -- the value rides in a frame of its own
      have hsim : Sim C β { fr := [.sl en oo n], outs := σ.fr :: σ.outs, mem := σ.mem } (#[a.eval x] :: a.tmps :: as) w := by
        refine ⟨h.frm, ⟨⟨by simp, fun q => ?_⟩, h.fr⟩, h.ent, h.inj, h.own⟩
        cases q with
        | zero => exact hx0
        | succ q => simp [List.getD_eq_getElem?_getD]; exact V3.undef
      obtain ⟨β', hs'⟩ := hsim.reb hl ho1
      have hv' := hs'.fr.1.2 0
      have hv' : V3 _ (rebV en oo n (.sl en oo n)) (a.eval x) := hv'
      simp only [rebV, beq_self_eq_true, Bool.and_true, cond_true] at hv'
      obtain ⟨t2, l2, hl2, hsl2⟩ := hv'
      rw [hxe] at hsl2
      have hlen : l2.length = n := by
        obtain ⟨A2, c2, e2, _⟩ := hsl2
        injection e2 with _ e2
        exact e2.symm
      rw [hlen] at hsl2
      have h2' : Sim C β' (let σ := σ.map1 (rebV en oo n); { σ with mem := updE σ.mem en (.row te ((l.drop oo).take n)) }) (a.tmps :: as) w := ⟨hs'.frm, hs'.fr.2, hs'.ent, hs'.inj, hs'.own⟩
      refine ⟨_, w, β', .inl ?_, h2', V3.of0 (v := .slw en) ⟨t2, l2, hl2, by rw [hlen]; exact hsl2.clip⟩⟩
      simp only [execOp, hop, hxe, Option.map_some, Sem.run_bind, hr, Result.andThen_ok, Sem.run_pure]
    · cases hA
  · cases hA

end
end Go.Proofs.Ytiboikgoaihccaa.R
