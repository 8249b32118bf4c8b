/-
The program's table of types; values and their cells; operands.
-/
import Derived.Test.YtiboikgoaihccaaR6
import Derived.Laws.Tables
import Derived.Laws.CopyRow
import Derived.Laws.MakeOwn
import Derived.Laws.AppendOwn
import Derived.Laws.Entries
namespace Go.Proofs.Ytiboikgoaihccaa.R
open Go.RowKit

/-- Two structs of plain cells are held against each other cell by cell. -/
def EqsOk (P : Program) (t : TypeId) (z : List V) : Prop :=
  ∀ (S : Cx) (xs ys : List V) (as bs : Array Value) (r : Bool) (w : World), eqCells z xs ys = some r → All2 (V1 S) xs as.toList → All2 (V1 S) ys bs.toList →
    ∀ x y, (do eqGuard .eql t x y (.agg as) (.agg bs); binOp .eql t (.agg as) (.agg bs) : Sem Value).run P w = .ok (.bool r) w ∧
      (do eqGuard .neq t x y (.agg as) (.agg bs); binOp .neq t (.agg as) (.agg bs) : Sem Value).run P w = .ok (.bool (!r)) w

/-- What the table tells is so. -/
structure TtOk (P : Program) (tt : Nat → TI) : Prop where
  slice : ∀ t e, (tt t).kind = .slice e → P.underlying t = some (.slice e)
  struct : ∀ t fs, (tt t).kind = .struct fs → ∃ F : Array Field, P.underlying t = some (.struct F) ∧ F.toList.map (fun f => (f.offset, f.type)) = fs ∧ ∀ f ∈ F.toList, ∃ i, P.info? f.type = some i ∧ i.size = (tt f.type).size
  array : ∀ t n e, (tt t).kind = .array n e → P.underlying t = some (.array n e)
  int : ∀ t k, (tt t).kind = .int k → P.underlying t = some (.int k)
  bool : ∀ t, (tt t).kind = .bool → P.underlying t = some .bool
  str : ∀ t, (tt t).kind = .str → P.underlying t = some .string
  ptr : ∀ t e, (tt t).kind = .ptr e → P.underlying t = some (.pointer e)
  info : ∀ t, (tt t).size ≠ 0 → ∃ i z, P.info? t = some i ∧ i.size = (tt t).size ∧ i.bytes = (tt t).bytes ∧ i.zero = some z ∧
    All2 (fun v y => (∀ S, V1 S v y) ∧ One y) (tt t).zero z.cells.toList
  agg : ∀ t, (tt t).size ≠ 0 → ∃ d, P.underlying t = some d ∧ (tt t).agg = (match d with | .struct _ | .array _ _ => true | _ => false)
  one : ∀ t, (tt t).size ≠ 0 → (tt t).agg = false → (tt t).size = 1
  ty : ∀ t τ, (tt t).ty = some τ → (tt t).size ≠ 0 ∧ τ.size = (tt t).size ∧ τ.agg = (tt t).agg ∧ ∀ i z, P.info? t = some i → i.zero = some z → ∀ B w, DRel B w τ (dflt τ) z.cells.toList
  eqs : ∀ t, (tt t).eqs = true → EqsOk P t (tt t).zero

section
variable {S : Cx}

theorem V3_ofValue (v : Value) : V3 S (ofValue v) v := by
  have h1 : ∀ y, V1 S (ofValue1 y) y := by
    intro y
    unfold ofValue1
    split <;> first | rfl | trivial
  have h3 : ∀ y, V3 S (ofValue1 y) y := fun y => V3.of1 (h1 y)
  cases v with
  | agg cs =>
    refine ⟨cs, rfl, ?_⟩
    refine All2.of (by simp) fun i a b ha hb => ?_
    rw [List.getElem?_map, hb] at ha
    simp only [Option.map_some, Option.some.injEq] at ha
    subst ha
    exact h1 b
  | bool b => exact h3 (.bool b)
  | int k n => exact h3 (.int k n)
  | float k n => exact h3 (.float k n)
  | complex k n m => exact h3 (.complex k n m)
  | string s => exact h3 (.string s)
  | pointer a => exact h3 (.pointer a)
  | slice a n c => exact h3 (.slice a n c)
  | map r => exact h3 (.map r)
  | chan r => exact h3 (.chan r)
  | func f a c => exact h3 (.func f a c)
  | nilFunc => exact h3 .nilFunc
  | iface t v => exact h3 (.iface t v)
  | nilIface => exact h3 .nilIface
  | tuple vs => exact h3 (.tuple vs)

theorem Sim.eval {C : Frm} {β : Nat → Option Loc} {σ : St} {a : Act} {as : List (Array Value)} {w : World} (h : Sim C β σ (a.tmps :: as) w) (x : Operand) : V3 (cx C β σ w) (σ.eval x) (a.eval x) := by
  cases x with
  | tmp t => exact h.get t
  | const v => exact V3_ofValue v
  | func f => exact ⟨#[], rfl, trivial⟩
  | global g => exact V3.undef

/-- A value that is known, of one cell. -/
theorem V1.one {v : V} {y : Value} (h : V1 S v y) (hk : known [v] = true) : One y := by
  cases v with
  | int k n => have h : y = _ := h; subst h; rfl
  | bool b => have h : y = _ := h; subst h; rfl
  | str s => have h : y = _ := h; subst h; rfl
  | ro t l => obtain ⟨A, c, h, _⟩ := h; injection h with h; subst h; rfl
  | own t l => simp [known] at hk
  | nil => have h : y = _ := h; subst h; rfl
  | nilp => have h : y = _ := h; subst h; rfl
  | undef => simp [known] at hk
  | slw e => obtain ⟨t, l, _, A, c, h, _⟩ := h; subst h; rfl
  | sl e o n => obtain ⟨t, l, _, _, ⟨A, c, h, _⟩, _⟩ := h; subst h; rfl
  | ptr e i o =>
    obtain ⟨E, L, _, _, h⟩ := h
    cases E with
    | row t l => obtain ⟨_, _, h⟩ := h; subst h; rfl
    | box cs => obtain ⟨_, h⟩ := h; subst h; rfl
  | rop cs => obtain ⟨a, h, _⟩ := h; subst h; rfl
  | fn f caps => obtain ⟨ys, h, _⟩ := h; subst h; rfl
  | agg cs => simp [known] at hk
  | tup vs => simp [known] at hk

theorem known_cons {v : V} {vs : List V} (h : known (v :: vs) = true) : known [v] = true ∧ known vs = true := by
  cases v <;> simp_all [known]

theorem All2.ones {vs : List V} {ys : List Value} (h : All2 (V1 S) vs ys) (hk : known vs = true) : ∀ y ∈ ys, One y := by
  induction vs generalizing ys with
  | nil => cases ys <;> simp_all [All2]
  | cons v vs ih => cases ys with
    | nil => simp
    | cons y ys =>
      obtain ⟨h1, h2⟩ := known_cons hk
      intro z hz
      rcases List.mem_cons.1 hz with rfl | hz
      · exact h.1.one h1
      · exact ih h.2 h2 z hz

theorem One.cells {y : Value} (h : One y) : y.cells = #[y] := by cases y <;> first | rfl | (simp [One, Value.oneCell'] at h)

/-- The cells of a value that is known. -/
theorem V3.cells {v : V} {x : Value} (h : V3 S v x) (hk : known v.cells = true) : All2 (V1 S) v.cells x.cells.toList ∧ ∀ y ∈ x.cells.toList, One y := by
  rcases V3.cases h with ⟨vs, rfl, _⟩ | ⟨_, h⟩
  · simp [V.cells, known] at hk
  rcases V2.cases h with ⟨cs, rfl, ys, rfl, h0⟩ | ⟨h1, h⟩
  · exact ⟨h0, h0.ones hk⟩
  · have hc : v.cells = [v] := by cases v <;> first | rfl | simp [V.isAgg] at h1
    rw [hc] at hk ⊢
    have ho := h.one hk
    rw [ho.cells]
    exact ⟨⟨h, trivial⟩, by simpa using ho⟩

theorem V3.agg_of {cs : List V} {x : Value} (h : V3 S (.agg cs) x) : ∃ ys, x = .agg ys ∧ All2 (V1 S) cs ys.toList := h

/-- Cells put together. -/
theorem V3_asV {g : Bool} {cs : List V} {ys : Array Value} (h : All2 (V1 S) cs ys.toList) (h1 : g = false → cs.length = 1) : V3 S (asV g cs) (if g then .agg ys else ys.toList.headD undef) := by
  cases g with
  | true => exact ⟨ys, rfl, h⟩
  | false =>
    have h1 := h1 rfl
    match cs, h1 with
    | [v], _ =>
      have hl := h.length
      match hy : ys.toList, hl with
      | [y], _ =>
        rw [hy] at h
        exact V3.of1 h.1

theorem C0.to {v : V} {y : Value} (h : C0 S.B S.w v y) : V1 S v y := by
  cases v <;> first | exact h | exact h.elim

/-- Data of the type of a cell: told as cells. -/
theorem DRel.enc : ∀ {t : Ty} {x : t.den} {ys : List Value}, DRel S.B S.w t x ys → All2 (C0 S.B S.w) (enc t x) ys
  | .int _, _, _, h => by simp only [DRel] at h; subst h; exact ⟨rfl, trivial⟩
  | .bool, _, _, h => by simp only [DRel] at h; subst h; exact ⟨rfl, trivial⟩
  | .str, _, _, h => by simp only [DRel] at h; subst h; exact ⟨rfl, trivial⟩
  | .list a, l, ys, h => by
    have h' := h
    obtain ⟨A, c, rfl, _⟩ := h'
    exact ⟨h, trivial⟩
  | .pair a b, x, _, h => by
    obtain ⟨y1, y2, rfl, h1, h2⟩ := h
    exact h1.enc.append h2.enc
  | .one a, _, _, h => by simp only [DRel] at h; exact h.enc

theorem enc_length : ∀ (t : Ty) (x : t.den), (enc t x).length = t.size
  | .int _, _ => rfl
  | .bool, _ => rfl
  | .str, _ => rfl
  | .list _, _ => rfl
  | .pair a b, x => by simp only [enc, List.length_append, enc_length a, enc_length b, Ty.size]
  | .one a, x => by simp only [enc, enc_length a, Ty.size]

/-- Cells read as data. -/
theorem dec_rel {B : Nat → Prop} {w : World} : ∀ (t : Ty) {cs : List V} {ys : List Value} {x : t.den} {r : List V}, (∀ v y, V0 S v y → V0 ⟨[], fun _ => none, B, w⟩ v y) → All2 (V1 S) cs ys → dec t cs = some (x, r) →
    ∃ y1 y2, ys = y1 ++ y2 ∧ DRel B w t x y1 ∧ All2 (V1 S) r y2
  | .int k, [], _, _, _, _, _, h => by simp [dec] at h
  | .int k, v :: cs, ys, x, r, hv, ha, h => by
    cases v <;> simp only [dec, reduceCtorEq] at h
    rename_i k' n
    split at h
    · rename_i hk
      subst hk
      simp only [Option.some.injEq, Prod.mk.injEq] at h
      obtain ⟨rfl, rfl⟩ := h
      cases ys with
      | nil => exact ha.elim
      | cons y ys =>
        have h1 : y = _ := ha.1
        subst h1
        exact ⟨[_], ys, rfl, rfl, ha.2⟩
    · cases h
  | .bool, [], _, _, _, _, _, h => by simp [dec] at h
  | .bool, v :: cs, ys, x, r, hv, ha, h => by
    cases v <;> simp only [dec, reduceCtorEq] at h
    simp only [Option.some.injEq, Prod.mk.injEq] at h
    obtain ⟨rfl, rfl⟩ := h
    cases ys with
    | nil => exact ha.elim
    | cons y ys =>
      have h1 : y = _ := ha.1
      subst h1
      exact ⟨[_], ys, rfl, rfl, ha.2⟩
  | .str, [], _, _, _, _, _, h => by simp [dec] at h
  | .str, v :: cs, ys, x, r, hv, ha, h => by
    cases v <;> simp only [dec, reduceCtorEq] at h
    simp only [Option.some.injEq, Prod.mk.injEq] at h
    obtain ⟨rfl, rfl⟩ := h
    cases ys with
    | nil => exact ha.elim
    | cons y ys =>
      have h1 : y = _ := ha.1
      subst h1
      exact ⟨[_], ys, rfl, rfl, ha.2⟩
  | .list a, [], _, _, _, _, _, h => by simp [dec] at h
  | .list a, v :: cs, ys, x, r, hv, ha, h => by
    cases v <;> simp only [dec, reduceCtorEq] at h
    · rename_i a' l
      split at h
      · rename_i hk
        subst hk
        simp only [Option.some.injEq, Prod.mk.injEq] at h
        obtain ⟨rfl, rfl⟩ := h
        cases ys with
        | nil => exact ha.elim
        | cons y ys => exact ⟨[y], ys, rfl, hv (.ro _ _) y ha.1, ha.2⟩
      · cases h
    · simp only [Option.some.injEq, Prod.mk.injEq] at h
      obtain ⟨rfl, rfl⟩ := h
      cases ys with
      | nil => exact ha.elim
      | cons y ys =>
        have h1 : y = _ := ha.1
        subst h1
        exact ⟨[_], ys, rfl, ⟨none, 0, rfl, Nat.le_refl _, fun i x hx => by simp at hx⟩, ha.2⟩
  | .pair a b, cs, ys, x, r, hv, ha, h => by
    simp only [dec] at h
    cases h1 : dec a cs with
    | none => simp [h1] at h
    | some p =>
      obtain ⟨x1, r1⟩ := p
      simp only [h1] at h
      cases h2 : dec b r1 with
      | none => simp [h2] at h
      | some q =>
        obtain ⟨x2, r2⟩ := q
        simp only [h2, Option.some.injEq, Prod.mk.injEq] at h
        obtain ⟨rfl, rfl⟩ := h
        obtain ⟨y1, y2, rfl, d1, a1⟩ := dec_rel a hv ha h1
        obtain ⟨z1, z2, rfl, d2, a2⟩ := dec_rel b hv a1 h2
        exact ⟨y1 ++ z1, z2, by rw [List.append_assoc], ⟨y1, z1, rfl, d1, d2⟩, a2⟩
  | .one a, cs, ys, x, r, hv, ha, h => by
    simp only [dec] at h
    obtain ⟨y1, y2, e, d, a2⟩ := dec_rel a hv ha h
    exact ⟨y1, y2, e, d, a2⟩

theorem decAll_rel {B : Nat → Prop} {w : World} (t : Ty) {cs : List V} {ys : List Value} {x : t.den} (hv : ∀ v y, V0 S v y → V0 ⟨[], fun _ => none, B, w⟩ v y) (ha : All2 (V1 S) cs ys) (h : decAll t cs = some x) : DRel B w t x ys := by
  unfold decAll at h
  split at h
  · rename_i x' h1
    injection h with h
    subst h
    obtain ⟨y1, y2, rfl, d, a2⟩ := dec_rel t hv ha h1
    cases y2 with
    | nil => simpa using d
    | cons y y2 => exact a2.elim
  · cases h

end

/-- What may be read: all blocks that are there. -/
abbrev allB (w : World) : Nat → Prop := fun g => g < w.heap.size

abbrev cxP (B : Nat → Prop) (w : World) : Cx := ⟨[], fun _ => none, B, w⟩

section
variable {C : Frm} {β : Nat → Option Loc} {σ : St} {as : List (Array Value)} {w : World}

/-- For a reader. -/
theorem Sim.pure1 (h : Sim C β σ as w) {v : V} {x : Value} (hv : V1 (cx C β σ w) v x) : V1 (cxP (allB w) w) (pure1 σ v) x := by
  have hF : ∀ g, Free C σ.mem β w g → allB w g := fun g hf => hf.1
  cases v with
  | slw e =>
    obtain ⟨t, l, hl, hs⟩ := hv
    have hl : look σ.mem e = _ := hl
    simp only [R.pure1, hl]
    have := own_reads (S := cx C β σ w) (B' := allB w) (w' := w) (h.ent e _ hl) (by omega : 0 + l.length ≤ l.length) hs hF (fun L hL => h.lt hl hL) (fun _ _ => rfl)
    simpa [V1, V0] using this
  | sl e o n =>
    obtain ⟨t, l, hl, ho, hs, _⟩ := hv
    have hl : look σ.mem e = _ := hl
    simp only [R.pure1, hl]
    exact own_reads (S := cx C β σ w) (B' := allB w) (w' := w) (h.ent e _ hl) ho hs hF (fun L hL => h.lt hl hL) (fun _ _ => rfl)
  | ro t l => exact DRel.mono (t := .list t) hF (fun _ _ => rfl) hv
  | rop cs =>
    obtain ⟨a, hx, hb, hc⟩ := hv
    refine ⟨a, hx, hF _ hb, fun j v hj => ?_⟩
    obtain ⟨y, hy, h0⟩ := hc j v hj
    refine ⟨y, hy, ?_⟩
    cases v <;> simp only [C0] at h0 ⊢ <;> first | exact h0 | exact h0.mono hF (fun _ _ => rfl)
  | int k n => exact hv
  | bool b => exact hv
  | str s => exact hv
  | nil => exact hv
  | nilp => exact hv
  | _ => exact trivial

theorem Sim.pureV (h : Sim C β σ as w) {v : V} {x : Value} (hv : V3 (cx C β σ w) v x) : V3 (cxP (allB w) w) (pureV σ v) x := by
  rcases V3.cases hv with ⟨vs, rfl, _⟩ | ⟨_, h2⟩
  · exact trivial
  rcases V2.cases h2 with ⟨cs, rfl, ys, rfl, h3⟩ | ⟨h4, h3⟩
  · exact ⟨ys, rfl, h3.map (R.pure1 σ) fun a b hab => h.pure1 hab⟩
  · have : R.pureV σ v = R.pure1 σ v := by cases v <;> first | rfl | simp [V.isAgg] at h4
    rw [this]
    exact V3.of1 (h.pure1 h3)
end

/-- Pure cells under a memory of entries. -/
theorem V0.idP {B : Nat → Prop} {w : World} : ∀ v y, V0 (cxP B w) v y → V0 ⟨[], fun _ => none, B, w⟩ v y := fun _ _ h => h

end Go.Proofs.Ytiboikgoaihccaa.R
