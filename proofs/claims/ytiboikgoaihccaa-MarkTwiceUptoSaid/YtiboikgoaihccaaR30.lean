/-
The evaluator's table, reckoned from the program's own.
-/
import Derived.Test.YtiboikgoaihccaaR29
import Derived.Laws.StructEq
namespace Go.Proofs.Ytiboikgoaihccaa.R
open Go.RowKit
set_option linter.unusedVariables false
set_option linter.unusedSimpArgs false

section
variable (P : Program)

def aggOf (t : TypeId) : Bool := match P.underlying t with
  | some (.struct _) | some (.array _ _) => true
  | _ => false

def szOf (t : TypeId) : Nat := match P.info? t, P.underlying t with
  | some i, some _ => match i.zero with
    | some z => bif z.cells.toList.all Value.oneCell' && (aggOf P t || i.size == 1) then i.size else 0
    | none => 0
  | _, _ => 0

def kindOf (t : TypeId) : TK := match P.underlying t with
  | some (.int k) => .int k
  | some .bool => .bool
  | some .string => .str
  | some (.slice e) => .slice e
  | some (.struct F) => bif F.toList.all (fun f => match P.info? f.type with
      | some i => i.size == szOf P f.type
      | none => false) then .struct (F.toList.map fun f => (f.offset, f.type)) else .other
  | some (.array n e) => .array n e
  | some (.pointer e) => .ptr e
  | _ => .other

def zeroOf (t : TypeId) : List V := match P.info? t with
  | some i => match i.zero with
    | some z => z.cells.toList.map ofValue1
    | none => []
  | none => []

def bytesOf (t : TypeId) : Nat := match P.info? t with
  | some i => i.bytes
  | none => 0

def tysTail : List (Option Ty) → Option Ty
  | [] => none
  | [x] => x
  | some x :: xs => (tysTail xs).map (.pair x)
  | none :: _ => none

def tysTop : List (Option Ty) → Option Ty
  | [x] => x.map .one
  | xs => tysTail xs

def tyOf : Nat → TypeId → Option Ty
  | 0, _ => none
  | n + 1, t => match P.underlying t with
    | some (.int k) => some (.int k)
    | some .bool => some .bool
    | some .string => some .str
    | some (.slice e) => (tyOf n e).map .list
    | some (.struct F) => tysTop (F.toList.map fun f => tyOf n f.type)
    | _ => none

/-- The zero value's cells are those of the type's default. -/
def zOk : Ty → List Value → Option (List Value)
  | .int k, .int k' n :: r => if k' = k ∧ n = 0 then some r else none
  | .bool, .bool b :: r => bif b then none else some r
  | .str, .string s :: r => bif s.size == 0 then some r else none
  | .list _, .slice none 0 0 :: r => some r
  | .pair a b, cs => match zOk a cs with
    | some r => zOk b r
    | none => none
  | .one a, cs => zOk a cs
  | _, _ => none

def tyAt (t : TypeId) : Option Ty := match tyOf P 12 t, P.info? t with
  | some τ, some i => match i.zero with
    | some z => match zOk τ z.cells.toList with
      | some [] => bif Nat.blt 0 (szOf P t) && (τ.size == szOf P t && τ.agg == aggOf P t) then some τ else none
      | _ => none
    | none => none
  | _, _ => none

def eqFieldsOk : Nat → List Field → List V → Bool
  | _, [], [] => true
  | i, f :: fs, .int k _ :: vs => f.offset == i && f.name != "_" && (match P.underlying f.type with
    | some (.int k') => decide (k' = k)
    | _ => false) && eqFieldsOk (i + 1) fs vs
  | i, f :: fs, .bool _ :: vs => f.offset == i && f.name != "_" && (match P.underlying f.type with
    | some .bool => true
    | _ => false) && eqFieldsOk (i + 1) fs vs
  | i, f :: fs, .str _ :: vs => f.offset == i && f.name != "_" && (match P.underlying f.type with
    | some .string => true
    | _ => false) && eqFieldsOk (i + 1) fs vs
  | _, _, _ => false

def eqsAt (t : TypeId) : Bool := match P.underlying t with
  | some (.struct F) => eqFieldsOk P 0 F.toList (zeroOf P t) && (!P.stoodInHeld t && !P.eqGuardType P.depth t)
  | _ => false

/-- What the program's table tells of a type. -/
def tiOf (t : TypeId) : TI :=
  { size := szOf P t, bytes := bytesOf P t, agg := aggOf P t, kind := kindOf P t, zero := zeroOf P t, eqs := eqsAt P t, ty := tyAt P t }
end

section
variable {P : Program}

theorem zOk_rel {B : Nat → Prop} {w : World} : ∀ (t : Ty) {ys r : List Value}, zOk t ys = some r → ∃ y1, ys = y1 ++ r ∧ DRel B w t (dflt t) y1
  | .int k, ys, r, h => by
    cases ys with
    | nil => simp [zOk] at h
    | cons y ys =>
      cases y <;> simp only [zOk, reduceCtorEq] at h
      split at h
      · rename_i hk
        obtain ⟨rfl, rfl⟩ := hk
        injection h with h
        subst h
        exact ⟨[_], rfl, rfl⟩
      · cases h
  | .bool, ys, r, h => by
    cases ys with
    | nil => simp [zOk] at h
    | cons y ys =>
      cases y <;> simp only [zOk, reduceCtorEq] at h
      rename_i b
      cases b
      · injection h with h; subst h; exact ⟨[_], rfl, rfl⟩
      · cases h
  | .str, ys, r, h => by
    cases ys with
    | nil => simp [zOk] at h
    | cons y ys =>
      cases y <;> simp only [zOk, reduceCtorEq] at h
      rename_i s
      obtain ⟨h1, h2⟩ := cond_some h
      injection h2 with h2
      subst h2
      refine ⟨[_], rfl, ?_⟩
      have : s = ByteArray.empty := by
        apply ByteArray.ext
        have h3 : s.data.size = 0 := by simpa using h1
        exact Array.eq_empty_of_size_eq_zero h3
      subst this
      rfl
  | .list a, ys, r, h => by
    cases ys with
    | nil => simp [zOk] at h
    | cons y ys =>
      have : y = .slice none 0 0 ∧ r = ys := by
        unfold zOk at h
        split at h <;> simp_all
      obtain ⟨rfl, rfl⟩ := this
      exact ⟨[_], rfl, none, 0, rfl, Nat.le_refl _, fun i x hx => by simp [dflt] at hx⟩
  | .pair a b, ys, r, h => by
    simp only [zOk] at h
    cases h1 : zOk a ys with
    | none => rw [h1] at h; cases h
    | some r1 =>
      rw [h1] at h
      obtain ⟨y1, rfl, d1⟩ := zOk_rel a h1
      obtain ⟨y2, rfl, d2⟩ := zOk_rel b h
      exact ⟨y1 ++ y2, by rw [List.append_assoc], y1, y2, rfl, d1, d2⟩
  | .one a, ys, r, h => by
    simp only [zOk] at h
    obtain ⟨y1, e, d⟩ := zOk_rel a h
    exact ⟨y1, e, d⟩

theorem szOf_info {t : TypeId} (h : szOf P t ≠ 0) : ∃ i d z, P.info? t = some i ∧ P.underlying t = some d ∧ i.zero = some z ∧ z.cells.toList.all Value.oneCell' = true ∧ (aggOf P t = true ∨ i.size = 1) ∧ szOf P t = i.size := by
  unfold szOf at h ⊢
  cases hi : P.info? t with
  | none => rw [hi] at h; exact absurd rfl h
  | some i =>
    cases hu : P.underlying t with
    | none => rw [hi, hu] at h; exact absurd rfl h
    | some d =>
      cases hz : i.zero with
      | none => rw [hi, hu] at h; simp only [hz] at h; exact absurd rfl h
      | some z =>
        rw [hi, hu] at h
        simp only [hz] at h ⊢
        cases hb : z.cells.toList.all Value.oneCell' && (aggOf P t || i.size == 1) with
        | false => rw [hb] at h; exact absurd rfl h
        | true =>
          simp only [Bool.and_eq_true, Bool.or_eq_true, beq_iff_eq] at hb
          exact ⟨i, d, z, rfl, rfl, hz, hb.1, hb.2, rfl⟩

theorem eqFields_run {S : Cx} {w : World} {as bs : Array Value} (d : Nat) : ∀ (fs : List Field) (zs xs ys : List V) (i : Nat) (r : Bool), eqFieldsOk P i fs zs = true → eqCells zs xs ys = some r → All2 (V1 S) xs (as.toList.drop i) → All2 (V1 S) ys (bs.toList.drop i) →
    (Op.eqFields (d + 1) as bs fs).run P w = .ok r w
  | [], zs, xs, ys, i, r, hf, he, ha, hb => by
    cases zs with
    | cons z zs => simp [eqFieldsOk] at hf
    | nil =>
      cases xs <;> cases ys <;> simp only [eqCells, reduceCtorEq, Option.some.injEq] at he
      subst he
      rfl
  | f :: fs, zs, xs, ys, i, r, hf, he, ha, hb => by
    have step : ∀ {x y : V} {xs' ys' zs' : List V} {u v : Value} {q r' : Bool}, xs = x :: xs' → ys = y :: ys' → f.offset = i → f.name ≠ "_" → (isAgg f.type).run P w = .ok false w → (V1 S x u → V1 S y v → (Op.equalIn (d + 1) f.type u v).run P w = .ok q w) → as.toList[i]? = some u → bs.toList[i]? = some v →
        eqFieldsOk P (i + 1) fs zs' = true → eqCells zs' xs' ys' = some r' → r = (q && r') → (Op.eqFields (d + 1) as bs (f :: fs)).run P w = .ok r w := by
      intro x y xs' ys' zs' u v q r' ex ey hoff hname hagg hq hu hv hrest hcells hr
      subst ex; subst ey
      have hda : as.toList.drop i = u :: as.toList.drop (i + 1) := by
        obtain ⟨hlt, hh⟩ := List.getElem?_eq_some_iff.1 hu
        rw [List.drop_eq_getElem_cons hlt, hh]
      have hdb : bs.toList.drop i = v :: bs.toList.drop (i + 1) := by
        obtain ⟨hlt, hh⟩ := List.getElem?_eq_some_iff.1 hv
        rw [List.drop_eq_getElem_cons hlt, hh]
      rw [hda] at ha
      rw [hdb] at hb
      have ih := eqFields_run (w := w) d fs zs' xs' ys' (i + 1) r' hrest hcells ha.2 hb.2
      have hu' : as[i]? = some u := by simpa using hu
      have hv' : bs[i]? = some v := by simpa using hv
      have hq' := hq ha.1 hb.1
      simp only [Op.eqFields, hname, ne_eq, not_false_eq_true, if_true, Sem.run_bind, part, hagg, Result.andThen_ok, hoff, hu', hv', Sem.run_pure, Bool.false_eq_true, if_false, hq']
      subst hr
      cases q
      · rfl
      · simp only [Bool.not_true, Bool.false_eq_true, if_false, ih, Bool.true_and]
    have hlen : ∀ {x : V} {xs' : List V}, xs = x :: xs' → ∃ u, as.toList[i]? = some u := by
      intro x xs' e
      subst e
      cases hd : as.toList.drop i with
      | nil => rw [hd] at ha; exact ha.elim
      | cons u us => exact ⟨u, by have := List.getElem?_drop (xs := as.toList) (i := i) (j := 0); rw [hd] at this; simpa using this.symm⟩
    have hlen' : ∀ {x : V} {xs' : List V}, ys = x :: xs' → ∃ u, bs.toList[i]? = some u := by
      intro x xs' e
      subst e
      cases hd : bs.toList.drop i with
      | nil => rw [hd] at hb; exact hb.elim
      | cons u us => exact ⟨u, by have := List.getElem?_drop (xs := bs.toList) (i := i) (j := 0); rw [hd] at this; simpa using this.symm⟩
    cases zs with
    | nil => simp [eqFieldsOk] at hf
    | cons z zs =>
      cases z <;> simp only [eqFieldsOk, Bool.and_eq_true, Bool.false_eq_true, beq_iff_eq, bne_iff_ne, ne_eq] at hf
      case int k n0 =>
        obtain ⟨⟨⟨h1, h2⟩, h3⟩, h4⟩ := hf
        cases xs with
        | nil => simp [eqCells] at he
        | cons x xs =>
          cases ys with
          | nil => cases x <;> simp [eqCells] at he
          | cons y ys =>
            cases x <;> cases y <;> simp only [eqCells, reduceCtorEq] at he
            rename_i k1 n k2 m
            split at he
            rotate_left
            · cases he
            rename_i hkk
            obtain ⟨rfl, rfl⟩ := hkk
            cases hr : eqCells zs xs ys with
            | none => rw [hr] at he; cases he
            | some r' =>
              rw [hr] at he
              simp only [Option.some.injEq] at he
              obtain ⟨u, hu⟩ := hlen rfl
              obtain ⟨v, hv⟩ := hlen' rfl
              have hund : P.underlying f.type = some (.int k2) := by
                cases hx : P.underlying f.type with
                | none => rw [hx] at h3; cases h3
                | some dd =>
                  rw [hx] at h3
                  cases dd <;> simp only [reduceCtorEq, decide_eq_true_eq, Bool.false_eq_true] at h3
                  rw [h3]
              refine step (q := n == m) rfl rfl h1 h2 (by simp [isAgg, run_underlying hund]) ?_ hu hv h4 hr he.symm
              intro hu1 hv1
              have hu1 : u = .int k2 n := hu1
              have hv1 : v = .int k2 m := hv1
              subst hu1; subst hv1
              exact run_equalIn_int w d f.type k2 k2 n m hund
      case bool b0 =>
        obtain ⟨⟨⟨h1, h2⟩, h3⟩, h4⟩ := hf
        cases xs with
        | nil => simp [eqCells] at he
        | cons x xs =>
          cases ys with
          | nil => cases x <;> simp [eqCells] at he
          | cons y ys =>
            cases x <;> cases y <;> simp only [eqCells, reduceCtorEq] at he
            rename_i n m
            cases hr : eqCells zs xs ys with
            | none => rw [hr] at he; cases he
            | some r' =>
              rw [hr] at he
              simp only [Option.some.injEq] at he
              obtain ⟨u, hu⟩ := hlen rfl
              obtain ⟨v, hv⟩ := hlen' rfl
              have hund : P.underlying f.type = some .bool := by
                cases hx : P.underlying f.type with
                | none => rw [hx] at h3; cases h3
                | some dd =>
                  rw [hx] at h3
                  cases dd <;> simp only [reduceCtorEq, Bool.false_eq_true] at h3
                  rfl
              refine step (q := n == m) rfl rfl h1 h2 (by simp [isAgg, run_underlying hund]) ?_ hu hv h4 hr he.symm
              intro hu1 hv1
              have hu1 : u = .bool n := hu1
              have hv1 : v = .bool m := hv1
              subst hu1; subst hv1
              exact run_equalIn_bool w d f.type n m hund
      case str s0 =>
        obtain ⟨⟨⟨h1, h2⟩, h3⟩, h4⟩ := hf
        cases xs with
        | nil => simp [eqCells] at he
        | cons x xs =>
          cases ys with
          | nil => cases x <;> simp [eqCells] at he
          | cons y ys =>
            cases x <;> cases y <;> simp only [eqCells, reduceCtorEq] at he
            rename_i n m
            cases hr : eqCells zs xs ys with
            | none => rw [hr] at he; cases he
            | some r' =>
              rw [hr] at he
              simp only [Option.some.injEq] at he
              obtain ⟨u, hu⟩ := hlen rfl
              obtain ⟨v, hv⟩ := hlen' rfl
              have hund : P.underlying f.type = some .string := by
                cases hx : P.underlying f.type with
                | none => rw [hx] at h3; cases h3
                | some dd =>
                  rw [hx] at h3
                  cases dd <;> simp only [reduceCtorEq, Bool.false_eq_true] at h3
                  rfl
              refine step (q := n == m) rfl rfl h1 h2 (by simp [isAgg, run_underlying hund]) ?_ hu hv h4 hr he.symm
              intro hu1 hv1
              have hu1 : u = .string n := hu1
              have hv1 : v = .string m := hv1
              subst hu1; subst hv1
              rw [run_equalIn_string w d f.type n m hund, str_beq]

theorem eqsOk {t : TypeId} (h : eqsAt P t = true) : EqsOk P t (zeroOf P t) := by
  intro S xs ys as bs r w he ha hb x y
  unfold eqsAt at h
  split at h
  rotate_left
  · cases h
  rename_i F hu
  simp only [Bool.and_eq_true, Bool.not_eq_true'] at h
  obtain ⟨h1, h2, h3⟩ := h
  have hF : P.fieldsOf t = F := by simp [Program.fieldsOf, hu]
  have key : (Op.equalIn 10000 t (.agg as) (.agg bs)).run P w = .ok r w := by
    have e1 := run_equalIn_struct (P := P) w 9999 t as bs (by rw [hF]; exact hu) h2
    rw [hF] at e1
    have e2 := eqFields_run (P := P) (S := S) (w := w) (as := as) (bs := bs) 9998 F.toList _ xs ys 0 r h1 he (by simpa using ha) (by simpa using hb)
    exact e1.trans e2
  constructor
  · simp only [Sem.run_bind, run_eqGuard_agg w .eql t x y as bs h3, Result.andThen_ok, run_eql_struct, key]
  · simp only [Sem.run_bind, run_eqGuard_agg w .neq t x y as bs h3, Result.andThen_ok, run_neq_struct, key]

theorem cond_kind {b : Bool} {fs : List (Nat × TypeId)} {k : TK} (h : (bif b then TK.struct fs else TK.other) = k) : k = TK.struct fs ∨ k = TK.other := by
  cases b
  · exact .inr h.symm
  · exact .inl h.symm

theorem ttOk_tiOf (P : Program) : TtOk P (tiOf P) where
  slice t e h := by
    have h : kindOf P t = .slice e := h
    unfold kindOf at h
    split at h <;> first | (cases h; done) | (cases h; assumption) | (obtain h | h := cond_kind h <;> cases h)
  struct t fs h := by
    have h : kindOf P t = .struct fs := h
    unfold kindOf at h
    split at h <;> (try cases h; done)
    rename_i F hu
    cases hb : F.toList.all (fun f => match P.info? f.type with
      | some i => i.size == szOf P f.type
      | none => false) with
    | false => rw [hb] at h; cases h
    | true =>
      rw [hb] at h
      simp only [cond_true, TK.struct.injEq] at h
      refine ⟨F, hu, h, fun f hf => ?_⟩
      have := List.all_eq_true.1 hb f hf
      cases hi : P.info? f.type with
      | none => rw [hi] at this; cases this
      | some i => rw [hi] at this; exact ⟨i, rfl, by show i.size = szOf P f.type; simpa using this⟩
  array t n e h := by
    have h : kindOf P t = .array n e := h
    unfold kindOf at h
    split at h <;> first | (cases h; done) | (cases h; assumption) | (obtain h | h := cond_kind h <;> cases h)
  int t k h := by
    have h : kindOf P t = .int k := h
    unfold kindOf at h
    split at h <;> first | (cases h; done) | (cases h; assumption) | (obtain h | h := cond_kind h <;> cases h)
  bool t h := by
    have h : kindOf P t = .bool := h
    unfold kindOf at h
    split at h <;> first | (cases h; done) | (cases h; assumption) | (obtain h | h := cond_kind h <;> cases h)
  str t h := by
    have h : kindOf P t = .str := h
    unfold kindOf at h
    split at h <;> first | (cases h; done) | (cases h; assumption) | (obtain h | h := cond_kind h <;> cases h)
  ptr t e h := by
    have h : kindOf P t = .ptr e := h
    unfold kindOf at h
    split at h <;> first | (cases h; done) | (cases h; assumption) | (obtain h | h := cond_kind h <;> cases h)
  info t h := by
    obtain ⟨i, d, z, hi, hu, hz, hall, _, hs⟩ := szOf_info h
    refine ⟨i, z, hi, hs.symm, ?_, hz, ?_⟩
    · show i.bytes = bytesOf P t
      simp [bytesOf, hi]
    · show All2 _ (zeroOf P t) _
      simp only [zeroOf, hi, hz]
      refine All2.of (by simp) fun j a b ha hb => ?_
      rw [List.getElem?_map, hb] at ha
      simp only [Option.map_some, Option.some.injEq] at ha
      subst ha
      refine ⟨fun S => ?_, List.all_eq_true.1 hall b (List.mem_of_getElem? hb)⟩
      unfold ofValue1
      split <;> first | rfl | trivial
  agg t h := by
    obtain ⟨i, d, z, hi, hu, hz, hall, _, hs⟩ := szOf_info h
    refine ⟨d, hu, ?_⟩
    show aggOf P t = _
    unfold aggOf
    rw [hu]
    cases d <;> rfl
  one t h ha := by
    obtain ⟨i, d, z, hi, hu, hz, hall, h1, hs⟩ := szOf_info h
    have ha : aggOf P t = false := ha
    rcases h1 with h1 | h1
    · rw [ha] at h1; cases h1
    · show szOf P t = 1
      rw [hs, h1]
  ty t τ h := by
    have h : tyAt P t = some τ := h
    unfold tyAt at h
    split at h
    rotate_left
    · cases h
    rename_i τ' i hτ hi
    split at h
    rotate_left
    · cases h
    rename_i z hz
    split at h
    rotate_left
    · cases h
    rename_i hzo
    obtain ⟨h1, h2⟩ := cond_some h
    injection h2 with h2
    subst h2
    simp only [Bool.and_eq_true, Nat.blt_eq, beq_iff_eq] at h1
    refine ⟨by show szOf P t ≠ 0; omega, h1.2.1, h1.2.2, fun i' z' hi' hz' B w => ?_⟩
    rw [hi] at hi'
    injection hi' with hi'
    subst hi'
    rw [hz] at hz'
    injection hz' with hz'
    subst hz'
    obtain ⟨y1, e, d⟩ := zOk_rel (B := B) (w := w) τ' hzo
    rw [List.append_nil] at e
    rw [e]
    exact d
  eqs t h := eqsOk h

end
end Go.Proofs.Ytiboikgoaihccaa.R
