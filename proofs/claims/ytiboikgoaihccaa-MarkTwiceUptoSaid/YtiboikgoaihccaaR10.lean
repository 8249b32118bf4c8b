/-
Operations, further: slice literals, loads, stores, append.
-/
import Derived.Test.YtiboikgoaihccaaR9
namespace Go.Proofs.Ytiboikgoaihccaa.R
open Go.RowKit
set_option linter.unusedVariables false

section
variable {P : Program} {E : Env} {C : Frm} {β : Nat → Option Loc} {σ σ' : St} {a : Act} {as : List (Array Value)} {w : World} {o : Oper} {nm : Nat} {ty : TypeId} {bs : List Bool} {v : V}

/-! ### Rows that become read-only -/
theorem look_frz (σ : St) (e e' : Nat) : look (σ.frz e).mem e' = match look σ.mem e with
    | some (.row t l) => if e' = e then none else (look σ.mem e').map (Entry.map1 (frzV e t l))
    | _ => look σ.mem e' := by
  unfold St.frz
  cases hl : look σ.mem e with
  | none => rfl
  | some E =>
    cases E with
    | box cs => rfl
    | row t l =>
      show look ((dropE σ.mem e).map fun p => (p.1, p.2.map1 (frzV e t l))) e' = _
      rw [look_map]
      by_cases h : e' = e
      · subst h; simp [look_dropE_same]
      · simp [look_dropE_other _ h, h]

theorem frz_sub {e e' : Nat} (h : (look (σ.frz e).mem e').isSome = true) : (look σ.mem e').isSome = true := by
  rw [look_frz] at h
  split at h
  · by_cases he : e' = e
    · simp [he] at h
    · simpa [he] using h
  · exact h

theorem frz1_sub {v : V} {e' : Nat} (h : (look (frz1 σ v).mem e').isSome = true) : (look σ.mem e').isSome = true := by
  cases v <;> first | exact h | exact frz_sub h

theorem frzAll_sub : ∀ (vs : List V) {σ : St} {e' : Nat}, (look (σ.frzAll vs).mem e').isSome = true → (look σ.mem e').isSome = true
  | [], _, _, h => h
  | v :: vs, σ, e', h => frz1_sub (frzAll_sub vs h)

theorem frz_row {e e' : Nat} {t : Ty} {l : List t.den} (h : look σ.mem e' = some (.row t l)) : look (σ.frz e).mem e' = none ∨ look (σ.frz e).mem e' = some (.row t l) := by
  rw [look_frz]
  split
  · by_cases he : e' = e
    · exact .inl (by simp [he])
    · exact .inr (by simp [he, h, Entry.map1])
  · exact .inr h

theorem frz1_row {v : V} {e' : Nat} {t : Ty} {l : List t.den} (h : look σ.mem e' = some (.row t l)) : look (frz1 σ v).mem e' = none ∨ look (frz1 σ v).mem e' = some (.row t l) := by
  cases v <;> first | exact .inr h | exact frz_row h

theorem frzAll_row : ∀ (vs : List V) {σ : St} {e' : Nat} {t : Ty} {l : List t.den}, look σ.mem e' = some (.row t l) → look (σ.frzAll vs).mem e' = none ∨ look (σ.frzAll vs).mem e' = some (.row t l)
  | [], _, _, _, _, h => .inr h
  | v :: vs, σ, e', t, l, h => by
    rcases frz1_row (v := v) h with h1 | h1
    · left
      cases h2 : look (σ.frzAll (v :: vs)).mem e' with
      | none => rfl
      | some E =>
        have := frzAll_sub vs (σ := frz1 σ v) (e' := e') (by show (look (σ.frzAll (v :: vs)).mem e').isSome = true; rw [h2]; rfl)
        rw [h1] at this; cases this
    · exact frzAll_row vs h1

theorem frzAll_none : ∀ (vs : List V) {σ : St} {e : Nat} {t : Ty} {l : List t.den} {v : V}, v ∈ vs → (v = .slw e ∨ ∃ o n, v = .sl e o n) → look σ.mem e = some (.row t l) → look (σ.frzAll vs).mem e = none
  | v :: vs, σ, e, t, l, u, hm, hr, hl => by
    have key : look (frz1 σ v).mem e = none → look (σ.frzAll (v :: vs)).mem e = none := by
      intro h1
      cases h2 : look (σ.frzAll (v :: vs)).mem e with
      | none => rfl
      | some E =>
        have := frzAll_sub vs (σ := frz1 σ v) (e' := e) (by show (look (σ.frzAll (v :: vs)).mem e).isSome = true; rw [h2]; rfl)
        rw [h1] at this; cases this
    rcases List.mem_cons.1 hm with rfl | hm
    · refine key ?_
      rcases hr with rfl | ⟨o, n, rfl⟩ <;> (show look (σ.frz e).mem e = none; rw [look_frz, hl]; simp)
    · rcases frz1_row (v := v) hl with h1 | h1
      · exact key h1
      · exact frzAll_none vs (σ := frz1 σ v) hm hr h1

/-- What is read as pure data of rows that are read-only from now on. -/
theorem Sim.pureF (h : Sim C β σ as w) (vs : List V) {v : V} {x : Value} (hm : v ∈ vs) (hv : V1 (cx C β σ w) v x) : V1 (cxP (Free C (σ.frzAll vs).mem β w) w) (R.pure1 σ v) x := by
  have hF : ∀ gg, Free C σ.mem β w gg → Free C (σ.frzAll vs).mem β w gg := by
    rintro gg ⟨h1, h2⟩
    refine ⟨h1, ?_⟩
    exact fun hoh => h2 (hoh.imp_left fun ⟨e', L, h3, h4, h5⟩ => ⟨e', L, frzAll_sub vs h3, h4, h5⟩)
  have hown : ∀ e t (l : List t.den), look σ.mem e = some (.row t l) → (v = .slw e ∨ ∃ o n, v = .sl e o n) → ∀ L, β e = some L → Free C (σ.frzAll vs).mem β w L.g := by
    intro e t l hl hr L hL
    refine ⟨h.lt hl hL, ?_⟩
    rintro (⟨e', L', h3, h4, h5⟩ | hh)
    rotate_left
    · have h1 := C.hidOk _ hh
      rcases h.own e L (by rw [hl]; rfl) hL with h2 | h2
      · omega
      · exact h1.2 h2
    have he : e' = e := h.inj e' e L' L (frzAll_sub vs h3) (by rw [hl]; rfl) h4 hL h5
    subst he
    rw [frzAll_none vs hm hr hl] at h3
    cases h3
  cases v with
  | slw e =>
    obtain ⟨t, l, hl, hs⟩ := hv
    have hl : look σ.mem e = _ := hl
    simp only [R.pure1, hl]
    have := own_reads (S := cx C β σ w) (B' := Free C (σ.frzAll vs).mem β w) (w' := w) (h.ent e _ hl) (by omega : 0 + l.length ≤ l.length) hs hF (hown e t l hl (.inl rfl)) (fun _ _ => rfl)
    simpa [V1, V0] using this
  | sl e o n =>
    obtain ⟨t, l, hl, ho, hs, _⟩ := hv
    have hl : look σ.mem e = _ := hl
    simp only [R.pure1, hl]
    exact own_reads (S := cx C β σ w) (B' := Free C (σ.frzAll vs).mem β w) (w' := w) (h.ent e _ hl) ho hs hF (hown e t l hl (.inr ⟨o, n, rfl⟩)) (fun _ _ => rfl)
  | ro t l => exact DRel.mono (t := .list t) hF (fun _ _ => rfl) hv
  | rop cs =>
    obtain ⟨a, hx, hb, hc⟩ := hv
    refine ⟨a, hx, hF _ hb, fun j v hj => ?_⟩
    obtain ⟨y, hy, h0⟩ := hc j v hj
    refine ⟨y, hy, ?_⟩
    cases v <;> simp only [C0] at h0 ⊢ <;> first | exact h0 | exact h0.mono hF (fun _ _ => rfl)
  | int k n => exact hv
  | bool b => exact hv
  | str s => exact hv
  | nil => exact hv
  | nilp => exact hv
  | _ => exact trivial

theorem Sim.pureFs (h : Sim C β σ as w) (vs : List V) : ∀ (us : List V) {ys : List Value}, (∀ u ∈ us, u ∈ vs) → All2 (V1 (cx C β σ w)) us ys → All2 (V1 (cxP (Free C (σ.frzAll vs).mem β w) w)) (us.map (R.pure1 σ)) ys
  | [], ys, _, ha => by cases ys <;> simp_all [All2]
  | u :: us, ys, hm, ha => by
    cases ys with
    | nil => exact ha.elim
    | cons y ys => exact ⟨h.pureF vs (hm u (by simp)) ha.1, Sim.pureFs h vs us (fun z hz => hm z (by simp [hz])) ha.2⟩

theorem DRel_cxP {B : Nat → Prop} {w : World} : ∀ v y, V0 (cxP B w) v y → V0 ⟨[], fun _ => none, B, w⟩ v y := fun _ _ h => h

theorem done_buildSlice (hT : TtOk P E.tt) (h : Sim C β σ (a.tmps :: as) w) {t e : TypeId} {te : Ty} {len : Nat} {ps : Array (Nat × Operand)} {cs : List V} {l : List te.den} (hop : o.op = .buildSlice t len ps) (hk : (E.tt t).kind = .slice e) (hty : (E.tt e).ty = some te)
    (hc : fillC (fun i => some (i * (E.tt e).size, (E.tt e).size)) (ps.toList.map fun p => (p.1, σ.eval p.2)) (zerosL (E.tt e).zero (len * (E.tt e).size)) = some cs)
    (hd : decN te len (cs.map (R.pure1 σ)) = some l) (hn : len * (E.tt e).size ≤ 16777216) : Done P C o a as w (.slw nm) ((σ.frzAll cs).new nm (.row te l)) := by
  have hu := hT.slice t e hk
  obtain ⟨hs, hts, _, _⟩ := hT.ty e te hty
  obtain ⟨i, z, hi, his, _, hz, hzz⟩ := hT.info e hs
  have hzl := hzz.length
  have hzs : 0 < z.cells.size := by
    rcases Nat.eq_zero_or_pos z.cells.size with h0 | h0
    · have := (hT.ty e te hty).2.2.2 i z hi hz (fun _ => True) w
      have := this.length
      simp only [Array.length_toList, h0] at this
      have := te.size_pos
      omega
    · exact h0
  have hzr := zeros_rel (S := cx C β σ w) hzz (len * (E.tt e).size) hzs
  obtain ⟨ys, h1, h2⟩ := fill_rel (S := cx C β σ w) _ _ _ _ _ (parts_rel h ps.toList) hzr hc
  have h3 : All2 (V1 (cx C β σ w)) cs ys.toList := h2.mono fun _ _ hh => hh.1
  obtain ⟨h4, h5⟩ := decN_rel DRel_cxP te len (h.pureFs cs cs (fun _ hh => hh) h3) hd
  have hF := h.frzAll cs
  have hlen : ys.size = len * te.size := by
    have e1 := h2.length
    have e2 : cs.length = (zerosL (E.tt e).zero (len * (E.tt e).size)).length := by
      have : ∀ (ps : List (Nat × V)) (cs cs' : List V), fillC (fun i => some (i * (E.tt e).size, (E.tt e).size)) ps cs = some cs' → cs'.length = cs.length := by
        intro ps
        induction ps with
        | nil => intro cs cs' hh; simp only [fillC, Option.some.injEq] at hh; rw [hh]
        | cons p ps ih =>
          intro cs cs' hh
          obtain ⟨i, v⟩ := p
          simp only [fillC] at hh
          cases hb : ((E.tt e).size == v.cells.length && known v.cells && (i * (E.tt e).size + v.cells.length).ble cs.length) with
          | false => rw [hb] at hh; cases hh
          | true =>
            rw [hb] at hh
            simp only [cond_true] at hh
            have := ih _ _ hh
            rw [this]
            simp only [Bool.and_eq_true, Nat.ble_eq] at hb
            simp only [fillAt, List.length_append, List.length_take, List.length_drop]
            omega
      exact this _ _ _ hc
    simp only [Array.length_toList] at e1
    rw [← e1, e2, hts]
    simp [zerosL]
  refine done_row (h := hF) (el := e) (n := len) (c := len) (w1 := w) (Grows.refl w) ?_ h4.symm (Nat.le_refl _) hlen (fun i x hx => by
    obtain ⟨zs, hz, hc⟩ := h5 i x hx
    exact ⟨zs, hz, fun j z hj => by simpa using hc j z hj⟩)
  have hq : (ps.map fun p => (p.1, a.eval p.2)).toList = ps.toList.map fun p => (p.1, a.eval p.2) := Array.toList_map
  have hn' : ¬ (len * i.size > 2 ^ 24) := by rw [his]; omega
  simp only [execOp, hop, Instr.buildSlice, Sem.run_bind, run_underlying hu, Result.andThen_ok, run_sizeOf' hi]
  rw [if_neg hn']
  by_cases h0 : len * i.size = 0
  · have hys : ys = #[] := by
      have : ys.size = 0 := by rw [hlen, hts, ← his]; exact h0
      exact Array.eq_empty_of_size_eq_zero this
    rw [if_pos h0]
    simp only [Sem.run_bind, Sem.run_pure, Result.andThen_ok]
    have h6 : Instr.fill (fun i_1 => some (i_1 * i.size, i.size)) ((Array.range (len * i.size)).map (fun x => (#[] : Array Value)[x % (#[] : Array Value).size]!)) (ps.map fun p => (p.1, a.eval p.2)).toList = some ys := by
      rw [h0, hq, his]
      rw [← his] at h1
      rw [h0] at h1
      simpa [his, Array.range_zero'] using h1
    rw [h6]
    simp only [newRow, Sem.run_bind, run_newObj, Result.andThen_ok, Sem.run_pure, World.alloc_eq]
  · rw [if_neg h0]
    simp only [Sem.run_bind, run_zeroValue hi hz, Sem.run_pure, Result.andThen_ok]
    have h6 : Instr.fill (fun i_1 => some (i_1 * i.size, i.size)) ((Array.range (len * i.size)).map (fun x => z.cells[x % z.cells.size]!)) (ps.map fun p => (p.1, a.eval p.2)).toList = some ys := by
      rw [hq, his]; exact h1
    rw [h6]
    simp only [newRow, Sem.run_bind, run_newObj, Result.andThen_ok, Sem.run_pure, World.alloc_eq]

end
end Go.Proofs.Ytiboikgoaihccaa.R
