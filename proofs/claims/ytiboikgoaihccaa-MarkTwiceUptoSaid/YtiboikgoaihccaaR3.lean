/-
What the evaluator's values mean in memory; how meaning is kept.
-/
import Derived.Test.YtiboikgoaihccaaR2
import Derived.Below
import Derived.Laws.Rows
import Derived.Laws.IdiomCopy
import Derived.Deep.MidRow
namespace Go.Proofs.Ytiboikgoaihccaa.R
open Go.RowKit

theorem Ty.size_pos (t : Ty) : 0 < t.size := by
  induction t with
  | pair a b iha _ => simp only [Ty.size]; omega
  | one a ih => simpa [Ty.size] using ih
  | _ => simp [Ty.size]

/-- Two lists, place by place. -/
def All2 {α β : Type} (R : α → β → Prop) : List α → List β → Prop
  | [], [] => True
  | a :: as, b :: bs => R a b ∧ All2 R as bs
  | _, _ => False

section
variable {α β : Type} {R R' : α → β → Prop}
theorem All2.length {as : List α} {bs : List β} (h : All2 R as bs) : as.length = bs.length := by
  induction as generalizing bs with
  | nil => cases bs <;> simp_all [All2]
  | cons a as ih => cases bs with
    | nil => simp [All2] at h
    | cons b bs => simp [ih h.2]
theorem All2.mono {as : List α} {bs : List β} (hR : ∀ a b, R a b → R' a b) (h : All2 R as bs) : All2 R' as bs := by
  induction as generalizing bs with
  | nil => cases bs <;> simp_all [All2]
  | cons a as ih => cases bs with
    | nil => simp [All2] at h
    | cons b bs => exact ⟨hR _ _ h.1, ih h.2⟩
theorem All2.mono_mem {as : List α} {bs : List β} (hR : ∀ a b, a ∈ as → R a b → R' a b) (h : All2 R as bs) : All2 R' as bs := by
  induction as generalizing bs with
  | nil => cases bs <;> simp_all [All2]
  | cons a as ih => cases bs with
    | nil => simp [All2] at h
    | cons b bs => exact ⟨hR _ _ (by simp) h.1, ih (fun a b ha => hR a b (by simp [ha])) h.2⟩
theorem All2.get {as : List α} {bs : List β} (h : All2 R as bs) {i : Nat} {a : α} (ha : as[i]? = some a) : ∃ b, bs[i]? = some b ∧ R a b := by
  induction as generalizing bs i with
  | nil => simp at ha
  | cons x as ih => cases bs with
    | nil => simp [All2] at h
    | cons b bs => cases i with
      | zero => simp at ha; subst ha; exact ⟨b, by simp, h.1⟩
      | succ i => simpa using ih h.2 (by simpa using ha)
theorem All2.getL {as : List α} {bs : List β} (h : All2 R as bs) {i : Nat} {b : β} (hb : bs[i]? = some b) : ∃ a, as[i]? = some a ∧ R a b := by
  induction as generalizing bs i with
  | nil => cases bs <;> simp_all [All2]
  | cons x as ih => cases bs with
    | nil => simp [All2] at h
    | cons y bs => cases i with
      | zero => simp at hb; subst hb; exact ⟨x, by simp, h.1⟩
      | succ i => simpa using ih h.2 (by simpa using hb)
theorem All2.map {γ : Type} (f : α → γ) {Q : γ → β → Prop} (hR : ∀ a b, R a b → Q (f a) b) {as : List α} {bs : List β} (h : All2 R as bs) : All2 Q (as.map f) bs := by
  induction as generalizing bs with
  | nil => cases bs <;> simp_all [All2]
  | cons a as ih => cases bs with
    | nil => simp [All2] at h
    | cons b bs => exact ⟨hR _ _ h.1, ih h.2⟩
theorem All2.append {as as' : List α} {bs bs' : List β} (h : All2 R as bs) (h' : All2 R as' bs') : All2 R (as ++ as') (bs ++ bs') := by
  induction as generalizing bs with
  | nil => cases bs <;> simp_all [All2]
  | cons a as ih => cases bs with
    | nil => simp [All2] at h
    | cons b bs => exact ⟨h.1, ih h.2⟩
theorem All2.take {as : List α} {bs : List β} (h : All2 R as bs) (n : Nat) : All2 R (as.take n) (bs.take n) := by
  induction as generalizing bs n with
  | nil => cases bs <;> simp_all [All2]
  | cons a as ih => cases bs with
    | nil => simp [All2] at h
    | cons b bs => cases n with
      | zero => simp [All2]
      | succ n => exact ⟨h.1, ih h.2 n⟩
theorem All2.drop {as : List α} {bs : List β} (h : All2 R as bs) (n : Nat) : All2 R (as.drop n) (bs.drop n) := by
  induction as generalizing bs n with
  | nil => cases bs <;> simp_all [All2]
  | cons a as ih => cases bs with
    | nil => simp [All2] at h
    | cons b bs => cases n with
      | zero => simpa using h
      | succ n => simpa using ih h.2 n
theorem All2.set {as : List α} {bs : List β} (h : All2 R as bs) (i : Nat) {a : α} {b : β} (hab : R a b) : All2 R (as.set i a) (bs.set i b) := by
  induction as generalizing bs i with
  | nil => cases bs <;> simp_all [All2]
  | cons x as ih => cases bs with
    | nil => simp [All2] at h
    | cons y bs => cases i with
      | zero => exact ⟨hab, h.2⟩
      | succ i => exact ⟨h.1, ih h.2 i⟩
/-- Out of what holds at each place. -/
theorem All2.of {as : List α} {bs : List β} (hl : as.length = bs.length) (h : ∀ (i : Nat) (a : α) (b : β), as[i]? = some a → bs[i]? = some b → R a b) : All2 R as bs := by
  induction as generalizing bs with
  | nil => cases bs <;> simp_all [All2]
  | cons x as ih => cases bs with
    | nil => simp at hl
    | cons y bs => exact ⟨h 0 x y (by simp) (by simp), ih (by simpa using hl) fun i a b ha hb => h (i + 1) a b (by simpa using ha) (by simpa using hb)⟩
end

/-- A value of one cell. -/
def One (v : Value) : Prop := v.oneCell' = true

/-! ### Pure data in memory: only blocks of B are asked -/
def DRel (B : Nat → Prop) (w : World) : (t : Ty) → t.den → List Value → Prop
  | .int k, n, ys => ys = [.int k n]
  | .bool, b, ys => ys = [.bool b]
  | .str, s, ys => ys = [.string s]
  | .list a, l, ys => ∃ A c, ys = [.slice A l.length c] ∧ l.length ≤ c ∧
      ∀ (i : Nat) (x : a.den), l[i]? = some x → ∃ ad zs, A = some ad ∧ B ad.block ∧ DRel B w a x zs ∧ ∀ (j : Nat) (z : Value), zs[j]? = some z → w.cell? (ad.add (i * a.size + j)) = some z
  | .pair a b, x, ys => ∃ y1 y2, ys = y1 ++ y2 ∧ DRel B w a x.1 y1 ∧ DRel B w b x.2 y2
  | .one a, x, ys => DRel B w a x ys

theorem DRel.length {B : Nat → Prop} {w : World} : ∀ {t : Ty} {x : t.den} {ys : List Value}, DRel B w t x ys → ys.length = t.size
  | .int _, _, _, h => by simp only [DRel] at h; subst h; rfl
  | .bool, _, _, h => by simp only [DRel] at h; subst h; rfl
  | .str, _, _, h => by simp only [DRel] at h; subst h; rfl
  | .list _, _, _, h => by obtain ⟨A, c, h, _⟩ := h; subst h; rfl
  | .pair a b, _, _, h => by obtain ⟨y1, y2, rfl, h1, h2⟩ := h; rw [List.length_append, h1.length, h2.length]; rfl
  | .one a, _, _, h => by simp only [DRel] at h; exact h.length

theorem DRel.one {B : Nat → Prop} {w : World} : ∀ {t : Ty} {x : t.den} {ys : List Value}, DRel B w t x ys → ∀ y ∈ ys, One y
  | .int _, _, _, h => by simp only [DRel] at h; subst h; simp [One, Value.oneCell']
  | .bool, _, _, h => by simp only [DRel] at h; subst h; simp [One, Value.oneCell']
  | .str, _, _, h => by simp only [DRel] at h; subst h; simp [One, Value.oneCell']
  | .list _, _, _, h => by obtain ⟨A, c, h, _⟩ := h; subst h; simp [One, Value.oneCell']
  | .pair a b, _, _, h => by
    obtain ⟨y1, y2, rfl, h1, h2⟩ := h
    intro y hy
    rcases List.mem_append.1 hy with hy | hy
    · exact h1.one y hy
    · exact h2.one y hy
  | .one a, _, _, h => by simp only [DRel] at h; exact h.one

theorem DRel.mono {B B' : Nat → Prop} {w w' : World} (hB : ∀ g, B g → B' g) (hw : ∀ g, B g → w'.heap[g]? = w.heap[g]?) :
    ∀ {t : Ty} {x : t.den} {ys : List Value}, DRel B w t x ys → DRel B' w' t x ys
  | .int _, _, _, h => h
  | .bool, _, _, h => h
  | .str, _, _, h => h
  | .list a, l, _, h => by
    obtain ⟨A, c, e, hc, h⟩ := h
    refine ⟨A, c, e, hc, fun i x hx => ?_⟩
    obtain ⟨ad, zs, e1, e2, e3, e4⟩ := h i x hx
    refine ⟨ad, zs, e1, hB _ e2, e3.mono hB hw, fun j z hz => ?_⟩
    rw [← e4 j z hz]
    refine World.cell?_of_block (w := w) ?_
    have hb : (ad.add (i * a.size + j)).block = ad.block := by unfold Addr.add; split <;> rfl
    rw [hb]
    exact hw _ e2
  | .pair a b, _, _, h => by
    obtain ⟨y1, y2, e, h1, h2⟩ := h
    exact ⟨y1, y2, e, h1.mono hB hw, h2.mono hB hw⟩
  | .one a, _, _, h => by simp only [DRel] at h ⊢; exact h.mono hB hw

/-- What holds no list asks nothing of memory. -/
theorem DRel.flat {B B' : Nat → Prop} {w w' : World} : ∀ {t : Ty} {x : t.den} {ys : List Value}, t.flat = true → DRel B w t x ys → DRel B' w' t x ys
  | .int _, _, _, _, h => h
  | .bool, _, _, _, h => h
  | .str, _, _, _, h => h
  | .list _, _, _, hf, _ => by simp [Ty.flat] at hf
  | .pair a b, _, _, hf, h => by
    simp only [Ty.flat, Bool.and_eq_true] at hf
    obtain ⟨y1, y2, e, h1, h2⟩ := h
    exact ⟨y1, y2, e, h1.flat hf.1, h2.flat hf.2⟩
  | .one a, _, _, hf, h => by
    simp only [DRel] at h ⊢
    simp only [Ty.flat] at hf
    exact h.flat hf

/-! ### Values -/
structure Loc where
  g : Nat
  base : Nat
  cells : Nat

structure Cx where
  m : List (Nat × Entry)
  β : Nat → Option Loc
  B : Nat → Prop
  w : World

/-- A slice over a row of the call's own: n elements from off on. -/
def SlAt (lo : Option Loc) (sz off n : Nat) (x : Value) : Prop :=
  ∃ A c, x = .slice A n c ∧ n ≤ c ∧ (c = 0 ∨ ∃ L, lo = some L ∧ A = some ⟨L.g, L.base + off * sz, none⟩ ∧ L.base + (off + c) * sz ≤ L.cells)

/-- There is room for m elements. -/
def CapAt (m : Nat) (x : Value) : Prop := ∃ A n c, x = .slice A n c ∧ m ≤ c

/-- A cell of pure data. -/
def C0 (B : Nat → Prop) (w : World) : V → Value → Prop
  | .int k n, x => x = .int k n
  | .bool b, x => x = .bool b
  | .str s, x => x = .string s
  | .ro t l, x => DRel B w (.list t) l [x]
  | _, _ => False

def V0 (S : Cx) : V → Value → Prop
  | .int k n, x => x = .int k n
  | .bool b, x => x = .bool b
  | .str s, x => x = .string s
  | .ro t l, x => DRel S.B S.w (.list t) l [x]
  | .nil, x => x = .slice none 0 0
  | .nilp, x => x = .pointer none
  | .undef, _ => True
  | .slw e, x => ∃ t l, look S.m e = some (.row t l) ∧ SlAt (S.β e) t.size 0 l.length x
  | .sl e o n, x => ∃ t l, look S.m e = some (.row t l) ∧ o + n ≤ l.length ∧ SlAt (S.β e) t.size o n x ∧ CapAt (l.length - o) x
  | .ptr e i o, x => ∃ E L, look S.m e = some E ∧ S.β e = some L ∧ match E with
    | .row t l => i < l.length ∧ o ≤ t.size ∧ x = .pointer (some ⟨L.g, L.base + i * t.size + o, none⟩)
    | .box _ => i = 0 ∧ x = .pointer (some ⟨L.g, L.base + o, none⟩)
  | .rop cs, x => ∃ a, x = .pointer (some a) ∧ S.B a.block ∧ ∀ (j : Nat) v, cs[j]? = some v → ∃ y, S.w.cell? (a.add j) = some y ∧ C0 S.B S.w v y
  | _, _ => False

def V1 (S : Cx) (v : V) (x : Value) : Prop :=
  match v with
  | .fn f caps => ∃ ys, x = .func (.func f) #[] ys ∧ All2 (V0 S) caps ys.toList
  | v => V0 S v x

def V2 (S : Cx) (v : V) (x : Value) : Prop :=
  match v with
  | .agg cs => ∃ ys, x = .agg ys ∧ All2 (V1 S) cs ys.toList
  | v => V1 S v x

def V3 (S : Cx) (v : V) (x : Value) : Prop :=
  match v with
  | .tup vs => ∃ ys, x = .tuple ys ∧ All2 (V2 S) vs ys.toList
  | v => V2 S v x

def V.isFn : V → Bool
  | .fn _ _ => true
  | _ => false
def V.isAgg : V → Bool
  | .agg _ => true
  | _ => false
def V.isTup : V → Bool
  | .tup _ => true
  | _ => false

section
variable {S : Cx} {v : V} {x : Value}
theorem V1.of (h : v.isFn = false) (h0 : V0 S v x) : V1 S v x := by
  cases v <;> simp only [V.isFn, Bool.true_eq_false] at h <;> exact h0
theorem V1.cases (hv : V1 S v x) : (∃ f caps, v = .fn f caps ∧ ∃ ys, x = .func (.func f) #[] ys ∧ All2 (V0 S) caps ys.toList) ∨ (v.isFn = false ∧ V0 S v x) := by
  cases v <;> first | exact .inr ⟨rfl, hv⟩ | exact .inl ⟨_, _, rfl, hv⟩
theorem V2.of (h : v.isAgg = false) (h0 : V1 S v x) : V2 S v x := by
  cases v <;> simp only [V.isAgg, Bool.true_eq_false] at h <;> exact h0
theorem V2.cases (hv : V2 S v x) : (∃ cs, v = .agg cs ∧ ∃ ys, x = .agg ys ∧ All2 (V1 S) cs ys.toList) ∨ (v.isAgg = false ∧ V1 S v x) := by
  cases v <;> first | exact .inr ⟨rfl, hv⟩ | exact .inl ⟨_, rfl, hv⟩
theorem V3.of (h : v.isTup = false) (h0 : V2 S v x) : V3 S v x := by
  cases v <;> simp only [V.isTup, Bool.true_eq_false] at h <;> exact h0
theorem V3.cases (hv : V3 S v x) : (∃ cs, v = .tup cs ∧ ∃ ys, x = .tuple ys ∧ All2 (V2 S) cs ys.toList) ∨ (v.isTup = false ∧ V2 S v x) := by
  cases v <;> first | exact .inr ⟨rfl, hv⟩ | exact .inl ⟨_, rfl, hv⟩
end

/-- An entry of the call's own memory. -/
def EntOk (S : Cx) (e : Nat) (E : Entry) : Prop :=
  match E with
  | .row t l => (l = [] ∧ S.β e = none) ∨ ∃ L cs el, S.β e = some L ∧ S.w.heap[L.g]? = some (.cells cs el (0, 0)) ∧ cs.size = L.cells ∧ L.base + l.length * t.size ≤ L.cells ∧
      ∀ (i : Nat) x, l[i]? = some x → ∃ zs, DRel S.B S.w t x zs ∧ ∀ (j : Nat) z, zs[j]? = some z → cs[L.base + i * t.size + j]? = some z
  | .box vs => ∃ L cs el, S.β e = some L ∧ S.w.heap[L.g]? = some (.cells cs el (0, 0)) ∧ cs.size = L.cells ∧
      ∀ (j : Nat) v, vs[j]? = some v → ∃ y, cs[L.base + j]? = some y ∧ V1 S v y ∧ One y

/-- What a call may have done to what was there before it: w0: the world at its beginning, G: blocks that it was lent, hid: blocks that are not its to read. -/
structure Frm where
  w0 : World
  G : Nat → Prop
  hid : Nat → Prop
  hidOk : ∀ g, hid g → g < w0.heap.size ∧ ¬ G g

structure FrmOk (C : Frm) (w : World) : Prop where
  os : w.os = C.w0.os
  tape : w.tape = C.w0.tape
  output : w.output = C.w0.output
  size : C.w0.heap.size ≤ w.heap.size
  block : ∀ g, g < C.w0.heap.size → ¬ C.G g → w.heap[g]? = C.w0.heap[g]?

def Own (m : List (Nat × Entry)) (β : Nat → Option Loc) (g : Nat) : Prop := ∃ e L, (look m e).isSome = true ∧ β e = some L ∧ L.g = g

/-- The blocks that may be read as pure data: they are there, no entry's, and not hidden. -/
def Free (C : Frm) (m : List (Nat × Entry)) (β : Nat → Option Loc) (w : World) (g : Nat) : Prop := g < w.heap.size ∧ ¬ (Own m β g ∨ C.hid g)

def FrRel (S : Cx) (fr : List V) (tmps : Array Value) : Prop := fr.length ≤ tmps.size ∧ ∀ t, V3 S (fr.getD t .undef) (tmps.getD t undef)

structure Sim (C : Frm) (β : Nat → Option Loc) (σ : St) (as : List (Array Value)) (w : World) : Prop where
  frm : FrmOk C w
  fr : All2 (FrRel ⟨σ.mem, β, Free C σ.mem β w, w⟩) (σ.fr :: σ.outs) as
  ent : ∀ e E, look σ.mem e = some E → EntOk ⟨σ.mem, β, Free C σ.mem β w, w⟩ e E
  inj : ∀ e e' L L', (look σ.mem e).isSome = true → (look σ.mem e').isSome = true → β e = some L → β e' = some L' → L.g = L'.g → e = e'
  own : ∀ e L, (look σ.mem e).isSome = true → β e = some L → C.w0.heap.size ≤ L.g ∨ C.G L.g

/-! ### Meaning is kept -/
/-- The shape of an entry: what references to it need. -/
def Entry.like : Entry → Entry → Prop
  | .row t l, .row t' l' => ∃ h : t = t', l.length = l'.length ∧ h = h
  | .box _, .box _ => True
  | _, _ => False

theorem Entry.like_refl (E : Entry) : E.like E := by cases E <;> simp [Entry.like]

/-- From S to S': the entries stay (in their shape, at their places), the blocks that may be read stay. -/
structure Keeps (S S' : Cx) : Prop where
  m : ∀ e E, look S.m e = some E → ∃ E', look S'.m e = some E' ∧ E.like E'
  β : ∀ e, (look S.m e).isSome = true → S'.β e = S.β e
  B : ∀ g, S.B g → S'.B g
  w : ∀ g, S.B g → S'.w.heap[g]? = S.w.heap[g]?

theorem Keeps.row {S S' : Cx} (h : Keeps S S') {e : Nat} {t : Ty} {l : List t.den} (hl : look S.m e = some (.row t l)) : ∃ l', look S'.m e = some (.row t l') ∧ l.length = l'.length := by
  obtain ⟨E', h1, h2⟩ := h.m e _ hl
  cases E' with
  | row t' l' =>
    obtain ⟨ht, h2, _⟩ := h2
    subst ht
    exact ⟨l', h1, h2⟩
  | box cs => simp [Entry.like] at h2

theorem Keeps.is {S S' : Cx} (h : Keeps S S') {e : Nat} {E : Entry} (hl : look S.m e = some E) : S'.β e = S.β e := h.β e (by simp [hl])

theorem C0.keeps {S S' : Cx} (h : Keeps S S') {v : V} {x : Value} (hv : C0 S.B S.w v x) : C0 S'.B S'.w v x := by
  cases v <;> simp only [C0] at hv ⊢ <;> first | exact hv | exact hv.mono h.B h.w

theorem cell_block {w w' : World} {a : Addr} {j : Nat} (h : w'.heap[a.block]? = w.heap[a.block]?) : w'.cell? (a.add j) = w.cell? (a.add j) := by
  refine World.cell?_of_block (w := w) ?_
  have hb : (a.add j).block = a.block := by unfold Addr.add; split <;> rfl
  rw [hb, h]

theorem V0.keeps {S S' : Cx} (h : Keeps S S') {v : V} {x : Value} (hv : V0 S v x) : V0 S' v x := by
  cases v with
  | ro t l => exact DRel.mono h.B h.w hv
  | slw e =>
    obtain ⟨t, l, hl, hs⟩ := hv
    obtain ⟨l', hl', he⟩ := h.row hl
    exact ⟨t, l', hl', by rw [h.is hl, ← he]; exact hs⟩
  | sl e o n =>
    obtain ⟨t, l, hl, ho, hs, hcap⟩ := hv
    obtain ⟨l', hl', he⟩ := h.row hl
    exact ⟨t, l', hl', by omega, by rw [h.is hl]; exact hs, by rw [← he]; exact hcap⟩
  | ptr e i o =>
    obtain ⟨E, L, hl, hL, hx⟩ := hv
    obtain ⟨E', h1, h2⟩ := h.m e _ hl
    refine ⟨E', L, h1, by rw [h.is hl]; exact hL, ?_⟩
    cases E with
    | row t l => cases E' with
      | row t' l' =>
        obtain ⟨ht, h2, _⟩ := h2
        subst ht
        exact ⟨by have := hx.1; omega, hx.2⟩
      | box _ => simp [Entry.like] at h2
    | box cs => cases E' with
      | row t' l' => simp [Entry.like] at h2
      | box _ => exact hx
  | rop cs =>
    obtain ⟨a, hx, hB, hc⟩ := hv
    refine ⟨a, hx, h.B _ hB, fun j v hj => ?_⟩
    obtain ⟨y, hy, h0⟩ := hc j v hj
    exact ⟨y, by rw [cell_block (h.w _ hB)]; exact hy, h0.keeps h⟩
  | _ => exact hv

theorem V1.keeps {S S' : Cx} (h : Keeps S S') {v : V} {x : Value} (hv : V1 S v x) : V1 S' v x := by
  rcases V1.cases hv with ⟨f, caps, rfl, ys, hx, ha⟩ | ⟨h1, h0⟩
  · exact ⟨ys, hx, ha.mono fun _ _ => V0.keeps h⟩
  · exact V1.of h1 (V0.keeps h h0)

theorem V2.keeps {S S' : Cx} (h : Keeps S S') {v : V} {x : Value} (hv : V2 S v x) : V2 S' v x := by
  rcases V2.cases hv with ⟨cs, rfl, ys, hx, ha⟩ | ⟨h1, h0⟩
  · exact ⟨ys, hx, ha.mono fun _ _ => V1.keeps h⟩
  · exact V2.of h1 (V1.keeps h h0)

theorem V3.keeps {S S' : Cx} (h : Keeps S S') {v : V} {x : Value} (hv : V3 S v x) : V3 S' v x := by
  rcases V3.cases hv with ⟨cs, rfl, ys, hx, ha⟩ | ⟨h1, h0⟩
  · exact ⟨ys, hx, ha.mono fun _ _ => V2.keeps h⟩
  · exact V3.of h1 (V2.keeps h h0)

theorem FrRel.keeps {S S' : Cx} (h : Keeps S S') {fr : List V} {tmps : Array Value} (hv : FrRel S fr tmps) : FrRel S' fr tmps := ⟨hv.1, fun t => (hv.2 t).keeps h⟩

/-- An entry, where its block has not turned. -/
theorem EntOk.keeps {S S' : Cx} (h : Keeps S S') {e : Nat} {E : Entry} (hl : look S.m e = some E) (hb : ∀ L, S.β e = some L → S'.w.heap[L.g]? = S.w.heap[L.g]?) (hv : EntOk S e E) : EntOk S' e E := by
  cases E with
  | row t l =>
    rcases hv with ⟨h0, h1⟩ | ⟨L, cs, el, h1, h2, h3, h4, h5⟩
    · exact .inl ⟨h0, by rw [h.is hl]; exact h1⟩
    · refine .inr ⟨L, cs, el, by rw [h.is hl]; exact h1, by rw [hb L h1]; exact h2, h3, h4, fun i x hx => ?_⟩
      obtain ⟨zs, hz, hc⟩ := h5 i x hx
      exact ⟨zs, hz.mono h.B h.w, hc⟩
  | box vs =>
    obtain ⟨L, cs, el, h1, h2, h3, h5⟩ := hv
    refine ⟨L, cs, el, by rw [h.is hl]; exact h1, by rw [hb L h1]; exact h2, h3, fun j v hj => ?_⟩
    obtain ⟨y, hy, h0, ho⟩ := h5 j v hj
    exact ⟨y, hy, h0.keeps h, ho⟩

/-! ### Lists of entries -/
theorem look_dropE_same (m : List (Nat × Entry)) (e : Nat) : look (dropE m e) e = none := by
  induction m with
  | nil => rfl
  | cons p m ih =>
    obtain ⟨k, x⟩ := p
    by_cases hk : (k == e) = true
    · simp [dropE, hk, ih]
    · simp only [Bool.not_eq_true] at hk
      simp [dropE, look, hk, ih]

theorem look_dropE_other (m : List (Nat × Entry)) {e e' : Nat} (h : e' ≠ e) : look (dropE m e) e' = look m e' := by
  induction m with
  | nil => rfl
  | cons p m ih =>
    obtain ⟨k, x⟩ := p
    by_cases hk : (k == e) = true
    · have hk' : (k == e') = false := by
        simp only [beq_iff_eq] at hk; subst hk; simpa using fun h' => h h'.symm
      simp [dropE, look, hk, hk', ih]
    · simp only [Bool.not_eq_true] at hk
      by_cases hk' : (k == e') = true
      · simp [dropE, look, hk, hk']
      · simp only [Bool.not_eq_true] at hk'
        simp [dropE, look, hk, hk', ih]

theorem look_cons (m : List (Nat × Entry)) (e e' : Nat) (x : Entry) : look ((e, x) :: m) e' = if e = e' then some x else look m e' := by
  by_cases h : e = e'
  · subst h; simp [look]
  · have : (e == e') = false := by simpa using h
    simp [look, this, h]

theorem look_updE (m : List (Nat × Entry)) (e e' : Nat) (x : Entry) : look (updE m e x) e' = if e = e' ∧ (look m e).isSome = true then some x else look m e' := by
  induction m with
  | nil => simp [updE, look]
  | cons p m ih =>
    obtain ⟨k, y⟩ := p
    by_cases hk : k = e
    · subst hk
      by_cases h : k = e'
      · subst h; simp [updE, look]
      · have : (k == e') = false := by simpa using h
        simp [updE, look, this, h]
    · have hk' : (k == e) = false := by simpa using hk
      simp only [updE, hk', cond_false, look]
      by_cases h : k = e'
      · subst h
        have : ¬ e = k := fun h => hk h.symm
        simp [this]
      · have h' : (k == e') = false := by simpa using h
        simp only [h', cond_false, ih]

theorem look_map (m : List (Nat × Entry)) (f : Entry → Entry) (e : Nat) : look (m.map fun p => (p.1, f p.2)) e = (look m e).map f := by
  induction m with
  | nil => rfl
  | cons p m ih =>
    obtain ⟨k, x⟩ := p
    by_cases hk : (k == e) = true
    · simp [look, hk]
    · simp only [Bool.not_eq_true] at hk
      simp [look, hk, ih]

end Go.Proofs.Ytiboikgoaihccaa.R
