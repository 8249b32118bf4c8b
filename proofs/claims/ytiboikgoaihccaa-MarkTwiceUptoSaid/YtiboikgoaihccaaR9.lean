/-
Operations, further: literals, loads, stores.
-/
import Derived.Test.YtiboikgoaihccaaR8
namespace Go.Proofs.Ytiboikgoaihccaa.R
open Go.RowKit

section
variable {P : Program} {E : Env} {C : Frm} {β : Nat → Option Loc} {σ σ' : St} {a : Act} {as : List (Array Value)} {w : World} {o : Oper} {nm : Nat} {ty : TypeId} {bs : List Bool} {v : V}

theorem parts_rel (h : Sim C β σ (a.tmps :: as) w) (ps : List (Nat × Operand)) : All2 (fun (p : Nat × V) (q : Nat × Value) => p.1 = q.1 ∧ V3 (cx C β σ w) p.2 q.2) (ps.map fun p => (p.1, σ.eval p.2)) (ps.map fun p => (p.1, a.eval p.2)) := by
  induction ps with
  | nil => exact trivial
  | cons p ps ih => exact ⟨⟨rfl, h.eval p.2⟩, ih⟩

theorem places_of {fs : List (Nat × TypeId)} {F : List Field} {tt : Nat → TI} (hF : F.map (fun f => (f.offset, f.type)) = fs) (hi : ∀ f ∈ F, ∃ i, P.info? f.type = some i ∧ i.size = (tt f.type).size) :
    F.mapM (fun f => (P.info? f.type).map fun i => (f.offset, i.size)) = some (fs.map fun f => (f.1, (tt f.2).size)) := by
  subst hF
  induction F with
  | nil => rfl
  | cons f F ih =>
    obtain ⟨i, h1, h2⟩ := hi f (by simp)
    simp only [List.mapM_cons, h1, Option.map_some, Option.bind_eq_bind, Option.bind_some, ih fun g hg => hi g (by simp [hg]), Option.pure_def, List.map_cons, h2]

theorem done_build (hT : TtOk P E.tt) (h : Sim C β σ (a.tmps :: as) w) {t : TypeId} {ps : Array (Nat × Operand)} {fs : List (Nat × TypeId)} {cs : List V} (hop : o.op = .build t ps) (hk : (E.tt t).kind = .struct fs) (hs : (E.tt t).size ≠ 0)
    (hc : fillC (fun i => (fs[i]?).map fun f => (f.1, (E.tt f.2).size)) (ps.toList.map fun p => (p.1, σ.eval p.2)) (E.tt t).zero = some cs) : Done P C o a as w (.agg cs) σ := by
  obtain ⟨F, hu, hF, hFi⟩ := hT.struct t fs hk
  obtain ⟨i, z, hi, _, _, hz, hzz⟩ := hT.info t hs
  obtain ⟨ys, h1, h2⟩ := fill_rel (S := cx C β σ w) _ _ _ _ z.cells (parts_rel h ps.toList) (hzz.mono fun v y hh => ⟨hh.1 _, hh.2⟩) hc
  have hpl := places_of (P := P) (tt := E.tt) hF hFi
  refine .same (x := .agg ys) h ?_ ⟨ys, rfl, h2.mono fun _ _ hh => hh.1⟩
  have hb : P.built t ((ps.map fun p => (p.1, a.eval p.2)).toList) = some ys := by
    unfold Program.built
    rw [hi, hu, Array.toList_map]
    simp only [hz, hpl]
    have he : (fun (x : Nat) => (fs.map fun (f : Nat × TypeId) => (f.1, (E.tt f.2).size)).toArray[x]?) = fun i => (fs[i]?).map fun (f : Nat × TypeId) => (f.1, (E.tt f.2).size) := by
      funext x
      simp
    rw [he]
    exact h1
  have := run_build (P := P) w t (ps.map fun p => (p.1, a.eval p.2)) ys hb
  simp only [execOp, hop, Sem.run_bind]
  rw [this]
  rfl

/-- A fresh row. -/
theorem done_row (h : Sim C β σ (a.tmps :: as) w) {t : Ty} {l : List t.den} {ys : Array Value} {el : TypeId} {n c : Nat} {w1 : World} (hg : Grows w w1) (hr : (execOp a.eval o).run P w = .ok (.value (.slice (some ⟨w1.heap.size, 0, none⟩) n c)) (w1.alloc (.cells ys el)))
    (hn : n = l.length) (hcap : n ≤ c) (hsz : ys.size = c * t.size) (hl : ∀ (i : Nat) x, l[i]? = some x → ∃ zs, DRel (Free C σ.mem β w) w t x zs ∧ ∀ (j : Nat) z, zs[j]? = some z → ys[i * t.size + j]? = some z) : Done P C o a as w (.slw nm) (σ.new nm (.row t l)) := by
  obtain ⟨h0, hk0⟩ := h.grows hg
  have hF : ∀ gg, Free C σ.mem β w gg → Free C (σ.clear nm).mem β w1 gg := by
    rintro gg ⟨h1, h2⟩
    refine ⟨Nat.lt_of_lt_of_le h1 hg.size, ?_⟩
    exact fun hoh => h2 (hoh.imp_left fun ⟨e', L, h3, h4, h5⟩ => ⟨e', L, clear_sub h3, h4, h5⟩)
  obtain ⟨h1, hk⟩ := h0.new nm (.row t l) ys el (fun S' hS hw hβ => by
    refine .inr ⟨_, ys, el, hβ, by rw [hw]; exact heap_alloc_new w1 _, rfl, ?_, fun i x hx => ?_⟩
    · show 0 + l.length * t.size ≤ ys.size
      rw [hsz, ← hn, Nat.zero_add]
      exact Nat.mul_le_mul_right _ hcap
    · obtain ⟨zs, hz, hc⟩ := hl i x hx
      refine ⟨zs, hz.mono (fun g hf => hS.B g (hF g hf)) (fun g hf => ?_), fun j z hj => by simpa using hc j z hj⟩
      rw [hS.w g (hF g hf)]
      exact hg.block g hf.1)
  refine ⟨_, _, _, .inl hr, h1, V3.of0 ⟨t, l, by simp [St.new, look_cons], ?_⟩⟩
  refine ⟨_, c, by rw [hn], by omega, .inr ⟨⟨w1.heap.size, 0, ys.size⟩, by simp [setβ], by simp, ?_⟩⟩
  show 0 + (0 + c) * t.size ≤ ys.size
  rw [hsz, Nat.zero_add, Nat.zero_add]
  exact Nat.le_refl _

theorem decN_rel {S : Cx} {B : Nat → Prop} {w : World} (hv : ∀ v y, V0 S v y → V0 ⟨[], fun _ => none, B, w⟩ v y) (t : Ty) : ∀ (n : Nat) {cs : List V} {ys : List Value} {l : List t.den}, All2 (V1 S) cs ys → decN t n cs = some l →
    l.length = n ∧ ∀ (i : Nat) x, l[i]? = some x → ∃ zs, DRel B w t x zs ∧ ∀ (j : Nat) z, zs[j]? = some z → ys[i * t.size + j]? = some z
  | 0, [], ys, l, ha, h => by
    simp only [decN, Option.some.injEq] at h
    subst h
    exact ⟨rfl, fun i x hx => by simp at hx⟩
  | 0, v :: cs, ys, l, ha, h => by simp [decN] at h
  | n + 1, cs, ys, l, ha, h => by
    simp only [decN] at h
    cases h1 : dec t cs with
    | none => simp [h1] at h
    | some p =>
      obtain ⟨x, r⟩ := p
      simp only [h1] at h
      cases h2 : decN t n r with
      | none => simp [h2] at h
      | some xs =>
        simp only [h2, Option.some.injEq] at h
        subst h
        obtain ⟨y1, y2, rfl, d, a2⟩ := dec_rel t hv ha h1
        obtain ⟨hl, ih⟩ := decN_rel hv t n a2 h2
        have hy1 := d.length
        refine ⟨by simp [hl], fun i z hz => ?_⟩
        cases i with
        | zero =>
          simp only [List.getElem?_cons_zero, Option.some.injEq] at hz
          subst hz
          refine ⟨y1, d, fun j u hj => ?_⟩
          have hj' : j < y1.length := (List.getElem?_eq_some_iff.1 hj).1
          rw [Nat.zero_mul, Nat.zero_add, List.getElem?_append_left hj']
          exact hj
        | succ i =>
          simp only [List.getElem?_cons_succ] at hz
          obtain ⟨zs, d2, hc⟩ := ih i z hz
          refine ⟨zs, d2, fun j u hj => ?_⟩
          have := hc j u hj
          rw [List.getElem?_append_right (by rw [hy1, Nat.add_mul]; omega), hy1]
          rw [← this]
          congr 1
          rw [Nat.add_mul]; omega

theorem zeros_rel {S : Cx} {zero : List V} {z : Array Value} (hz : All2 (fun v y => (∀ S, V1 S v y) ∧ One y) zero z.toList) (n : Nat) (hpos : 0 < z.size) : All2 (fun v y => V1 S v y ∧ One y) (zerosL zero n) ((Array.range n).map (z[· % z.size]!)).toList := by
  have hl := hz.length
  simp only [Array.length_toList] at hl
  refine All2.of (by simp [zerosL]) fun i v y hv hy => ?_
  simp only [zerosL, List.getElem?_map, Option.map_eq_some_iff] at hv
  obtain ⟨j, hj, rfl⟩ := hv
  have hjn : j = i ∧ i < n := by
    have := List.getElem?_eq_some_iff.1 hj
    obtain ⟨h1, h2⟩ := this
    simp at h1 h2
    exact ⟨h2.symm, h1⟩
  obtain ⟨rfl, hjn⟩ := hjn
  simp only [Array.getElem?_toList, Array.getElem?_map, Array.getElem?_range, hjn, if_true, Option.map_some, Option.some.injEq] at hy
  subst hy
  have hm : j % z.size < z.size := Nat.mod_lt _ hpos
  have hm' : j % zero.length < zero.length := by rw [hl]; exact hm
  obtain ⟨y, hy, h1, h2⟩ := hz.get (List.getElem?_eq_getElem hm')
  have e1 : zero.getD (j % zero.length) .undef = zero[j % zero.length] := by simp [List.getD_eq_getElem?_getD, hm']
  have e2 : z[j % z.size]! = y := by
    rw [hl] at hy
    have hy : z[j % z.size]? = some y := by simpa using hy
    simp [getElem!_def, hy]
  rw [e1, e2]
  exact ⟨h1 _, h2⟩

end
end Go.Proofs.Ytiboikgoaihccaa.R
