/-
Operations, further: loads and stores.
-/
import Derived.Test.YtiboikgoaihccaaR10
namespace Go.Proofs.Ytiboikgoaihccaa.R
open Go.RowKit
set_option linter.unusedVariables false

section
variable {P : Program} {E : Env} {C : Frm} {β : Nat → Option Loc} {σ σ' : St} {a : Act} {as : List (Array Value)} {w : World} {o : Oper} {nm : Nat} {ty : TypeId} {bs : List Bool} {v : V}

theorem run_loadAt' {tt : Nat → TI} (hT : TtOk P tt) {t : TypeId} {p : Addr} {ys : List Value} (hs : (tt t).size ≠ 0) (hl : ys.length = (tt t).size) (hc : ∀ (j : Nat) y, ys[j]? = some y → w.cell? (p.add j) = some y) :
    (Instr.loadAt t (.pointer (some p))).run P w = .ok (if (tt t).agg then .agg ys.toArray else ys.headD undef) w := by
  obtain ⟨d, hu, hag⟩ := hT.agg t hs
  obtain ⟨i, z, hi, his, _⟩ := hT.info t hs
  have hload := run_loadCells_list (P := P) w p ys hc
  rw [hl, ← his] at hload
  simp only [Instr.loadAt, Instr.sureAddr, loadVar, isAgg, Sem.run_bind, Sem.run_pure, Result.andThen_ok, run_underlying hu]
  have one : (tt t).agg = false → (load p).run P w = .ok (ys.headD undef) w := by
    intro hg
    have h1 := hT.one t hs hg
    match ys, hl with
    | [y], _ =>
      have := hc 0 y rfl
      have h0 : p.add 0 = p := by simp [Addr.add]
      rw [h0] at this
      simp [this]
    | [], hl => simp [h1] at hl
    | _ :: _ :: _, hl => simp [h1] at hl
  cases d <;> simp only [] at hag <;> simp only [hag, Sem.run_pure, Result.andThen_ok, if_true, Bool.false_eq_true, if_false, Sem.run_bind, run_sizeOf' hi, hload] <;> first | rfl | exact one hag

/-- The cells that a pointer leads to. -/
theorem loadC_rel (h : Sim C β σ as w) {p : V} {x : Value} {n : Nat} {cs : List V} (hv : V3 (cx C β σ w) p x) (hc : loadC σ p n = some cs) :
    ∃ ad ys, x = .pointer (some ad) ∧ cs.length = n ∧ n ≠ 0 ∧ All2 (V1 (cx C β σ w)) cs ys ∧ ∀ (j : Nat) y, ys[j]? = some y → w.cell? (ad.add j) = some y := by
  cases p <;> simp only [loadC, reduceCtorEq] at hc
  · rename_i e i o
    obtain ⟨E, L, hl, hL, hx⟩ := hv
    have hl : look σ.mem e = some E := hl
    have hL : β e = some L := hL
    rw [hl] at hc
    have hent := h.ent e E hl
    cases E with
    | row t l =>
      simp only [] at hc
      obtain ⟨hi, ho, rfl⟩ := hx
      rcases hent with ⟨h0, _⟩ | ⟨L', cs', el, h1, h2, h3, h4, h5⟩
      · subst h0; simp at hi
      have h1 := hL.symm.trans h1
      injection h1 with h1
      subst h1
      have hget : l[i]? = some (rd t l i) := by
        simp only [rd, Int.toNat_natCast, List.getD_eq_getElem?_getD, List.getElem?_eq_getElem hi, Option.getD_some]
      obtain ⟨zs, hz, hcell⟩ := h5 i _ hget
      have henc := (hz.enc (S := cx C β σ w)).mono fun _ _ hh => hh.to
      cases hb : (n.ble ((enc t (rd t l i)).drop o).length && Nat.blt 0 n) with
      | false => rw [hb] at hc; cases hc
      | true =>
        rw [hb] at hc
        simp only [cond_true, Option.some.injEq] at hc
        subst hc
        simp only [Bool.and_eq_true, Nat.ble_eq] at hb
        have hn : 0 < n := Nat.le_of_ble_eq_true hb.2
        refine ⟨_, (zs.drop o).take n, rfl, by rw [List.length_take]; omega, by omega, (henc.drop o).take n, fun j y hj => ?_⟩
        have hj' : j < n := by
          rcases Nat.lt_or_ge j n with h' | h'
          · exact h'
          · rw [List.getElem?_eq_none (by simp; omega)] at hj; cases hj
        rw [List.getElem?_take_of_lt hj', List.getElem?_drop] at hj
        rw [Addr.add_mid, cell_of_row w L.g _ cs' el (0, 0) h2]
        have := hcell _ _ hj
        rw [← this]
        congr 1
        omega
    | box us =>
      simp only [] at hc
      obtain ⟨rfl, rfl⟩ := hx
      obtain ⟨L', cs', el, h1, h2, h3, h5⟩ := hent
      have h1 := hL.symm.trans h1
      injection h1 with h1
      subst h1
      cases hb : (n.ble (us.drop o).length && Nat.blt 0 n) with
      | false => rw [hb] at hc; cases hc
      | true =>
        rw [hb] at hc
        simp only [cond_true, Option.some.injEq] at hc
        subst hc
        simp only [Bool.and_eq_true, Nat.ble_eq] at hb
        have hn : 0 < n := Nat.le_of_ble_eq_true hb.2
        have hlen : ((us.drop o).take n).length = n := by rw [List.length_take]; omega
        refine ⟨_, (List.range n).map fun j => (cs'[L.base + (o + j)]?).getD undef, rfl, hlen, by omega, ?_, fun j y hj => ?_⟩
        · refine All2.of (by rw [hlen]; simp) fun j v y hv hy => ?_
          have hj' : j < n := by
            rcases Nat.lt_or_ge j n with h' | h'
            · exact h'
            · rw [List.getElem?_eq_none (by omega)] at hv; cases hv
          rw [List.getElem?_take_of_lt hj', List.getElem?_drop] at hv
          obtain ⟨y', hy', hv', _⟩ := h5 _ _ hv
          simp only [List.getElem?_map, List.getElem?_range hj', Option.map_some, Option.some.injEq] at hy
          rw [hy'] at hy
          simp only [Option.getD_some] at hy
          subst hy
          exact hv'
        · have hj' : j < n := by
            rcases Nat.lt_or_ge j n with h' | h'
            · exact h'
            · rw [List.getElem?_eq_none (by simp; omega)] at hj; cases hj
          simp only [List.getElem?_map, List.getElem?_range hj', Option.map_some, Option.some.injEq] at hj
          have hlt : o + j < us.length := by
            have := hb.1
            rw [List.length_drop] at this
            omega
          obtain ⟨y', hy', _, _⟩ := h5 _ _ (List.getElem?_eq_getElem hlt)
          rw [hy'] at hj
          simp only [Option.getD_some] at hj
          subst hj
          rw [Addr.add_mid, cell_of_row w L.g _ cs' el (0, 0) h2, Nat.add_assoc]
          exact hy'
  · rename_i us
    obtain ⟨ad, rfl, hB, hc'⟩ := hv
    cases hb : (n.ble us.length && Nat.blt 0 n) with
    | false => rw [hb] at hc; cases hc
    | true =>
      rw [hb] at hc
      simp only [cond_true, Option.some.injEq] at hc
      subst hc
      simp only [Bool.and_eq_true, Nat.ble_eq] at hb
      have hn : 0 < n := Nat.le_of_ble_eq_true hb.2
      have hlen : (us.take n).length = n := by rw [List.length_take]; omega
      refine ⟨ad, (List.range n).map fun j => (w.cell? (ad.add j)).getD undef, rfl, hlen, by omega, ?_, fun j y hj => ?_⟩
      · refine All2.of (by rw [hlen]; simp) fun j v y hv hy => ?_
        have hj' : j < n := by
          rcases Nat.lt_or_ge j n with h' | h'
          · exact h'
          · rw [List.getElem?_eq_none (by omega)] at hv; cases hv
        rw [List.getElem?_take_of_lt hj'] at hv
        obtain ⟨y', hy', hv'⟩ := hc' j v hv
        simp only [List.getElem?_map, List.getElem?_range hj', Option.map_some, Option.some.injEq] at hy
        have hy' : w.cell? (ad.add j) = some y' := hy'
        rw [hy'] at hy
        simp only [Option.getD_some] at hy
        subst hy
        exact C0.to hv'
      · have hj' : j < n := by
          rcases Nat.lt_or_ge j n with h' | h'
          · exact h'
          · rw [List.getElem?_eq_none (by simp; omega)] at hj; cases hj
        simp only [List.getElem?_map, List.getElem?_range hj', Option.map_some, Option.some.injEq] at hj
        obtain ⟨y', hy', _⟩ := hc' j _ (List.getElem?_eq_getElem (by omega))
        have hy' : w.cell? (ad.add j) = some y' := hy'
        rw [hy'] at hj
        simp only [Option.getD_some] at hj
        subst hj
        exact hy'

theorem done_load (hT : TtOk P E.tt) (h : Sim C β σ (a.tmps :: as) w) {t : TypeId} {x : Operand} {cs : List V} (hop : o.op = .load t x) (hc : loadC σ (σ.eval x) (E.tt t).size = some cs) : Done P C o a as w (asV (E.tt t).agg cs) σ := by
  obtain ⟨ad, ys, hx, hn, hs, ha, hcell⟩ := loadC_rel h (h.eval x) hc
  have hl : ys.length = (E.tt t).size := by rw [← ha.length, hn]
  have hr := run_loadAt' hT hs hl hcell
  refine .same (x := if (E.tt t).agg then .agg ys.toArray else ys.headD undef) h ?_ ?_
  · simp only [execOp, hop, hx, Sem.run_bind, hr, Result.andThen_ok, Sem.run_pure]
  · have := V3_asV (S := cx C β σ w) (g := (E.tt t).agg) (cs := cs) (ys := ys.toArray) (by simpa using ha) (fun hg => by rw [hn]; exact hT.one t hs hg)
    simpa using this

/-- A splice, place by place. -/
theorem splice_get {α : Type} (xs ys : List α) (p : Nat) (h : p + ys.length ≤ xs.length) (q : Nat) :
    (xs.take p ++ ys ++ xs.drop (p + ys.length))[q]? = if q < p then xs[q]? else if q < p + ys.length then ys[q - p]? else xs[q]? := by
  have hp : (xs.take p).length = p := by rw [List.length_take]; omega
  rw [List.append_assoc]
  by_cases h1 : q < p
  · rw [if_pos h1, List.getElem?_append_left (by omega), List.getElem?_take_of_lt h1]
  · rw [if_neg h1, List.getElem?_append_right (by omega), hp]
    by_cases h2 : q < p + ys.length
    · rw [if_pos h2, List.getElem?_append_left (by omega)]
    · rw [if_neg h2, List.getElem?_append_right (by omega), List.getElem?_drop]
      congr 1; omega

theorem run_storeAt' {tt : Nat → TI} (hT : TtOk P tt) {t : TypeId} {g p : Nat} {x : Value} {cs : Array Value} {el : TypeId} (hs : (tt t).size ≠ 0) (hl : x.cells.size = (tt t).size) (hg : w.heap[g]? = some (.cells cs el (0, 0))) (hp : p + x.cells.size ≤ cs.size) (h1 : ∀ y ∈ x.cells.toList, One y) :
    (Instr.storeAt t (.pointer (some ⟨g, p, none⟩)) x).run P w = .ok () (w.setRow g (cs.toList.take p ++ x.cells.toList ++ cs.toList.drop (p + x.cells.toList.length)).toArray) := by
  obtain ⟨i, z, hi, his, _⟩ := hT.info t hs
  have := run_storeCells_at P g p el x.cells.toList 0 cs w hg (by simpa using hp) h1
  simp only [Nat.add_zero] at this
  simp only [Instr.storeAt, Instr.sureAddr, storeVar, Sem.run_bind, Sem.run_pure, Result.andThen_ok, run_sizeOf' hi, his, hl, ne_eq, not_true_eq_false, if_false]
  exact this

theorem done_store (hT : TtOk P E.tt) (h : Sim C β σ (a.tmps :: as) w) {t : TypeId} {x y : Operand} (hop : o.op = .store t x y) (hc : storeC σ (σ.eval x) (E.tt t).size (σ.eval y) = some σ') : Done P C o a as w .undef σ' := by
  unfold storeC at hc
  simp only [] at hc
  cases hb : ((E.tt t).size == (σ.eval y).cells.length && Nat.blt 0 (E.tt t).size && known (σ.eval y).cells) with
  | false => rw [hb] at hc; cases hc
  | true =>
  rw [hb] at hc
  simp only [cond_true] at hc
  simp only [Bool.and_eq_true, beq_iff_eq] at hb
  obtain ⟨⟨hn, hpos⟩, hk⟩ := hb
  have hpos : 0 < (E.tt t).size := Nat.le_of_ble_eq_true hpos
  have hs : (E.tt t).size ≠ 0 := by omega
  obtain ⟨hcs, hones⟩ := (h.eval y).cells hk
  have hyl : (a.eval y).cells.toList.length = (E.tt t).size := by rw [← hcs.length, hn]
  have hxv := h.eval x
  cases hx : σ.eval x <;> rw [hx] at hc hxv <;> simp only [reduceCtorEq] at hc
  rename_i e i p
  obtain ⟨E1, L, hl, hL, hxx⟩ := hxv
  have hl : look σ.mem e = some E1 := hl
  have hL : β e = some L := hL
  rw [hl] at hc
  cases E1 with
  | box us =>
    simp only [] at hc
    obtain ⟨rfl, hxx⟩ := hxx
    cases hb : (p + (E.tt t).size).ble us.length with
    | false => rw [hb] at hc; cases hc
    | true =>
    rw [hb] at hc
    simp only [cond_true, Option.some.injEq] at hc
    subst hc
    have hb := Nat.le_of_ble_eq_true hb
    obtain ⟨L', cs', el, h1, h2, h3, h5⟩ := h.ent e _ hl
    have h1 := hL.symm.trans h1
    injection h1 with h1
    subst h1
    have h2 : w.heap[L.g]? = _ := h2
    have hfit : L.base + us.length ≤ cs'.size := by
      rcases Nat.eq_zero_or_pos us.length with h0 | h0
      · omega
      · obtain ⟨y', hy', _⟩ := h5 (us.length - 1) us[us.length - 1] (List.getElem?_eq_getElem (by omega))
        have hy' : cs'[L.base + (us.length - 1)]? = some y' := hy'
        have := (Array.getElem?_eq_some_iff.1 hy').1
        omega
    have hfit2 : L.base + p + (a.eval y).cells.size ≤ cs'.size := by
      simp only [Array.length_toList] at hyl; omega
    have hr := run_storeAt' (P := P) hT hs (by simpa using hyl) h2 hfit2 hones
    have hyl' : (σ.eval y).cells.length = (a.eval y).cells.toList.length := hcs.length
    refine ⟨undef, (w.setRow L.g (cs'.toList.take (L.base + p) ++ (a.eval y).cells.toList ++ cs'.toList.drop (L.base + p + (a.eval y).cells.toList.length)).toArray), β, .inr ⟨?_, rfl⟩, ?_, V3.undef⟩
    · simp only [execOp, hop, hxx, Sem.run_bind, hr, Result.andThen_ok, Sem.run_pure]
    · refine h.upd (E' := .box (us.take p ++ (σ.eval y).cells ++ us.drop (p + (E.tt t).size))) hl trivial hL rfl rfl rfl (by simp) (fun g hg => setRow_other w L.g g _ hg) fun hkeep => ?_
      refine ⟨L, _, el, hL, setRow_heap w L.g cs' _ el (0, 0) h2, ?_, fun j v hj => ?_⟩
      · rw [← h3]
        simp only [Array.length_toList] at hyl
        simp only [List.size_toArray, List.length_append, List.length_take, List.length_drop, Array.length_toList]
        omega
      · rw [hn, splice_get us (σ.eval y).cells p (by omega)] at hj
        rw [List.getElem?_toArray, splice_get cs'.toList (a.eval y).cells.toList (L.base + p) (by simpa using hfit2)]
        by_cases h6 : j < p
        · rw [if_pos h6] at hj
          rw [if_pos (by omega)]
          obtain ⟨y', hy', hv', ho'⟩ := h5 j v hj
          exact ⟨y', by simpa using hy', hv'.keeps hkeep, ho'⟩
        · rw [if_neg h6] at hj
          rw [if_neg (by omega)]
          by_cases h7 : j < p + (σ.eval y).cells.length
          · rw [if_pos h7] at hj
            rw [if_pos (by omega)]
            obtain ⟨y', hy', hv'⟩ := hcs.get hj
            refine ⟨y', ?_, hv'.keeps hkeep, hones y' (List.mem_of_getElem? hy')⟩
            rw [← hy']
            congr 1
            omega
          · rw [if_neg h7] at hj
            rw [if_neg (by omega)]
            obtain ⟨y', hy', hv', ho'⟩ := h5 j v hj
            exact ⟨y', by simpa using hy', hv'.keeps hkeep, ho'⟩
  | row t0 l0 =>
    simp only [] at hc
    have hF := h.frzAll (σ.eval y).cells
    cases hl' : look (σ.frzAll (σ.eval y).cells).mem e with
    | none => rw [hl'] at hc; cases hc
    | some E2 =>
    rw [hl'] at hc
    cases E2 with
    | box cs => cases hc
    | row te l =>
    simp only [] at hc
    have hsame : t0 = te ∧ HEq l0 l := by
      rcases frzAll_row (σ.eval y).cells hl with h1 | h1
      · rw [hl'] at h1; cases h1
      · rw [hl'] at h1
        injection h1 with h1
        injection h1 with h1 h2
        exact ⟨h1.symm, h2.symm⟩
    obtain ⟨rfl, hll⟩ := hsame
    have hll := eq_of_heq hll
    subst hll
    cases hd : decAll t0 ((enc t0 (rd t0 l0 i)).take p ++ (σ.eval y).cells.map (R.pure1 σ) ++ (enc t0 (rd t0 l0 i)).drop (p + (E.tt t).size)) with
    | none => rw [hd] at hc; cases hc
    | some x' =>
    rw [hd] at hc
    simp only [Option.some.injEq] at hc
    subst hc
    obtain ⟨hi, hp, hxx⟩ := hxx
    rcases hF.ent e _ hl' with ⟨h0, _⟩ | ⟨L', cs', el, h1, h2, h3, h4, h5⟩
    · subst h0; simp at hi
    have h1 : β e = some L' := h1
    have h1 := hL.symm.trans h1
    injection h1 with h1
    subst h1
    have h2 : w.heap[L.g]? = _ := h2
    have hget : l0[i]? = some (rd t0 l0 i) := by
      simp only [rd, Int.toNat_natCast, List.getD_eq_getElem?_getD, List.getElem?_eq_getElem hi, Option.getD_some]
    obtain ⟨zs, hz, hcell⟩ := h5 i _ hget
    have hzl := hz.length
    have hel := enc_length t0 (rd t0 l0 i)
    have hml : ((σ.eval y).cells.map (R.pure1 σ)).length = (E.tt t).size := by rw [List.length_map, hn]
    have hall : All2 (V1 (cxP (Free C (σ.frzAll (σ.eval y).cells).mem β w) w)) ((enc t0 (rd t0 l0 i)).take p ++ (σ.eval y).cells.map (R.pure1 σ) ++ (enc t0 (rd t0 l0 i)).drop (p + (E.tt t).size)) (zs.take p ++ (a.eval y).cells.toList ++ zs.drop (p + (E.tt t).size)) := by
      have henc : All2 (V1 (cxP (Free C (σ.frzAll (σ.eval y).cells).mem β w) w)) (enc t0 (rd t0 l0 i)) zs := (DRel.enc (S := cxP _ w) hz).mono fun _ _ hh => hh.to
      exact ((henc.take p).append (h.pureFs _ _ (fun _ hh => hh) hcs)).append (henc.drop _)
    have hd' := decAll_rel t0 DRel_cxP hall hd
    have hd'l := hd'.length
    have hpn : p + (E.tt t).size ≤ t0.size := by
      have := hd'l
      simp only [List.length_append, List.length_take, List.length_drop, hyl, hzl] at this
      omega
    have hbl : L.base + l0.length * t0.size ≤ cs'.size := by rw [h3]; exact h4
    have hil : i * t0.size + t0.size ≤ l0.length * t0.size := by
      have := Nat.mul_le_mul_right t0.size (show i + 1 ≤ l0.length from hi)
      rw [Nat.add_mul] at this
      omega
    have hfit2 : L.base + i * t0.size + p + (a.eval y).cells.size ≤ cs'.size := by
      simp only [Array.length_toList] at hyl; omega
    have hr := run_storeAt' (P := P) hT hs (by simpa using hyl) h2 hfit2 hones
    refine ⟨undef, (w.setRow L.g (cs'.toList.take (L.base + i * t0.size + p) ++ (a.eval y).cells.toList ++ cs'.toList.drop (L.base + i * t0.size + p + (a.eval y).cells.toList.length)).toArray), β, .inr ⟨?_, rfl⟩, ?_, V3.undef⟩
    · simp only [execOp, hop, hxx, Sem.run_bind, hr, Result.andThen_ok, Sem.run_pure]
    · refine hF.upd (E' := .row t0 (l0.set i x')) hl' ⟨rfl, by simp, rfl⟩ hL rfl rfl rfl (by simp) (fun g hg => setRow_other w L.g g _ hg) fun hkeep => ?_
      refine .inr ⟨L, _, el, hL, setRow_heap w L.g cs' _ el (0, 0) h2, ?_, by rw [List.length_set]; exact h4, fun i' x1 hx1 => ?_⟩
      · rw [← h3]
        simp only [Array.length_toList] at hyl
        simp only [List.size_toArray, List.length_append, List.length_take, List.length_drop, Array.length_toList]
        omega
      · rw [List.getElem?_set] at hx1
        by_cases hii : i = i'
        · subst hii
          rw [if_pos rfl, if_pos hi] at hx1
          injection hx1 with hx1
          subst hx1
          refine ⟨_, hd'.mono hkeep.B hkeep.w, fun j z hj => ?_⟩
          have hjl : j < t0.size := by
            have := (List.getElem?_eq_some_iff.1 hj).1
            omega
          rw [List.getElem?_toArray, splice_get cs'.toList (a.eval y).cells.toList (L.base + i * t0.size + p) (by simpa using hfit2)]
          rw [show p + (E.tt t).size = p + (a.eval y).cells.toList.length from by rw [hyl], splice_get zs (a.eval y).cells.toList p (by omega)] at hj
          by_cases h6 : j < p
          · rw [if_pos h6] at hj
            rw [if_pos (by omega)]
            simpa using hcell j z hj
          · rw [if_neg h6] at hj
            rw [if_neg (by omega)]
            by_cases h7 : j < p + (a.eval y).cells.toList.length
            · rw [if_pos h7] at hj
              rw [if_pos (by omega), ← hj]
              congr 1
              omega
            · rw [if_neg h7] at hj
              rw [if_neg (by omega)]
              simpa using hcell j z hj
        · rw [if_neg hii] at hx1
          obtain ⟨zs', hz', hcell'⟩ := h5 i' x1 hx1
          refine ⟨zs', hz'.mono hkeep.B hkeep.w, fun j z hj => ?_⟩
          have hjl : j < t0.size := by
            have := (List.getElem?_eq_some_iff.1 hj).1
            have := hz'.length
            omega
          rw [List.getElem?_toArray, splice_get cs'.toList (a.eval y).cells.toList (L.base + i * t0.size + p) (by simpa using hfit2)]
          have hc := hcell' j z hj
          rcases Nat.lt_or_gt_of_ne hii with hlt | hlt
          · have := Nat.mul_le_mul_right t0.size (show i + 1 ≤ i' from hlt)
            rw [Nat.add_mul] at this
            rw [if_neg (by omega), if_neg (by omega)]
            simpa using hc
          · have := Nat.mul_le_mul_right t0.size (show i' + 1 ≤ i from hlt)
            rw [Nat.add_mul] at this
            rw [if_pos (by omega)]
            simpa using hc

end
end Go.Proofs.Ytiboikgoaihccaa.R
