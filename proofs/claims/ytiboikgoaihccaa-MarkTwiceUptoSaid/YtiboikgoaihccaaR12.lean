/-
append.
-/
import Derived.Test.YtiboikgoaihccaaR11
import Derived.Laws.Append
namespace Go.Proofs.Ytiboikgoaihccaa.R
open Go.RowKit
set_option linter.unusedVariables false

section
variable {P : Program} {E : Env} {C : Frm} {β : Nat → Option Loc} {σ σ' : St} {a : Act} {as : List (Array Value)} {w : World} {o : Oper} {nm : Nat} {ty : TypeId} {bs : List Bool} {v : V}

/-- Element by element, from an address on. -/
def Elems (B : Nat → Prop) (w : World) (t : Ty) (xs : List t.den) (A : Option Addr) : Prop :=
  ∀ (i : Nat) (x : t.den), xs[i]? = some x → ∃ ad zs, A = some ad ∧ DRel B w t x zs ∧ ∀ (j : Nat) (z : Value), zs[j]? = some z → w.cell? (ad.add (i * t.size + j)) = some z

theorem div_mod_self (q s : Nat) : q / s * s + q % s = q := by rw [Nat.mul_comm]; exact Nat.div_add_mod q s

/-- All their cells. -/
theorem elems_cells {B : Nat → Prop} {t : Ty} {xs : List t.den} {A : Option Addr} (h : Elems B w t xs A) :
    ∃ news : List Value, news.length = xs.length * t.size ∧ (∀ y ∈ news, One y) ∧ (∀ (j : Nat) y, news[j]? = some y → ∃ p, A = some p ∧ w.cell? (p.add j) = some y) ∧
      ∀ (i : Nat) x, xs[i]? = some x → ∃ zs, DRel B w t x zs ∧ ∀ (j : Nat) z, zs[j]? = some z → news[i * t.size + j]? = some z := by
  have hs := t.size_pos
  cases A with
  | none =>
    have hx : xs = [] := by
      cases xs with
      | nil => rfl
      | cons x xs => obtain ⟨ad, zs, e, _⟩ := h 0 x rfl; cases e
    subst hx
    exact ⟨[], by simp, by simp, by simp, by simp⟩
  | some p =>
    have key : ∀ q, q < xs.length * t.size → ∃ y, w.cell? (p.add q) = some y ∧ One y := by
      intro q hq
      have hi : q / t.size < xs.length := by rw [Nat.div_lt_iff_lt_mul hs]; exact hq
      obtain ⟨ad, zs, e, hz, hcell⟩ := h (q / t.size) _ (List.getElem?_eq_getElem hi)
      injection e with e
      subst e
      have hm : q % t.size < zs.length := by rw [hz.length]; exact Nat.mod_lt _ hs
      have h1 := hcell _ _ (List.getElem?_eq_getElem hm)
      rw [div_mod_self] at h1
      exact ⟨_, h1, hz.one _ (List.getElem_mem hm)⟩
    refine ⟨(List.range (xs.length * t.size)).map fun q => (w.cell? (p.add q)).getD undef, by simp, ?_, ?_, ?_⟩
    · intro y hy
      simp only [List.mem_map, List.mem_range] at hy
      obtain ⟨q, hq, rfl⟩ := hy
      obtain ⟨y, hy, ho⟩ := key q hq
      rw [hy]; exact ho
    · intro j y hj
      have hj' : j < xs.length * t.size := by
        have := (List.getElem?_eq_some_iff.1 hj).1
        simpa using this
      simp only [List.getElem?_map, List.getElem?_range hj', Option.map_some, Option.some.injEq] at hj
      obtain ⟨y', hy', _⟩ := key j hj'
      rw [hy'] at hj
      simp only [Option.getD_some] at hj
      subst hj
      exact ⟨p, rfl, hy'⟩
    · intro i x hx
      obtain ⟨ad, zs, e, hz, hcell⟩ := h i x hx
      injection e with e
      subst e
      refine ⟨zs, hz, fun j z hj => ?_⟩
      have hjs : j < t.size := by
        have := (List.getElem?_eq_some_iff.1 hj).1
        rw [hz.length] at this; exact this
      have hil : i < xs.length := (List.getElem?_eq_some_iff.1 hx).1
      have hq : i * t.size + j < xs.length * t.size := by
        have := Nat.mul_le_mul_right t.size (show i + 1 ≤ xs.length from hil)
        rw [Nat.add_mul] at this
        omega
      simp only [List.getElem?_map, List.getElem?_range hq, Option.map_some]
      rw [hcell j z hj]
      rfl

/-- A part of a row of the call's own. -/
theorem own_elems {S : Cx} {e : Nat} {t : Ty} {l : List t.den} {oo n : Nat} {x : Value} (hent : EntOk S e (.row t l)) (ho : oo + n ≤ l.length) (hs : SlAt (S.β e) t.size oo n x) :
    ∃ A c, x = .slice A n c ∧ n ≤ c ∧ Elems S.B S.w t ((l.drop oo).take n) A := by
  obtain ⟨A, c, rfl, hc, h⟩ := hs
  refine ⟨A, c, rfl, hc, fun i y hy => ?_⟩
  have hi : i < n := by
    rcases Nat.lt_or_ge i n with h' | h'
    · exact h'
    · rw [List.getElem?_eq_none (by simp; omega)] at hy; cases hy
  rw [List.getElem?_take_of_lt hi, List.getElem?_drop] at hy
  rcases h with h0 | ⟨L, hL, rfl, hfit⟩
  · omega
  rcases hent with ⟨h0, h1⟩ | ⟨L', cs, el, h1, h2, h3, h4, h5⟩
  · subst h0; simp at hy
  · rw [hL] at h1
    injection h1 with h1
    subst h1
    obtain ⟨zs, hz, hcell⟩ := h5 (oo + i) y hy
    refine ⟨_, zs, rfl, hz, fun j z hj => ?_⟩
    have := hcell j z hj
    rw [Addr.add_mid, cell_of_row S.w L.g _ cs el (0, 0) h2, ← this]
    congr 1
    rw [Nat.add_mul]; omega

theorem DRel.elems {B : Nat → Prop} {t : Ty} {l : List t.den} {x : Value} (h : DRel B w (.list t) l [x]) : ∃ A c, x = .slice A l.length c ∧ l.length ≤ c ∧ Elems B w t l A := by
  obtain ⟨A, c, e, hc, h⟩ := h
  injection e with e
  refine ⟨A, c, e, hc, fun i y hy => ?_⟩
  obtain ⟨ad, zs, h1, _, h2, h3⟩ := h i y hy
  exact ⟨ad, zs, h1, h2, h3⟩

theorem decList {t : Ty} {v : V} {xs : List t.den} (h : decAll (.list t) [v] = some xs) : v = .ro t xs ∨ (v = .nil ∧ xs = []) := by
  unfold decAll at h
  cases v <;> simp only [dec, reduceCtorEq] at h
  · rename_i t' l
    split at h
    · rename_i x h1
      split at h1
      · rename_i ht
        subst ht
        simp only [Option.some.injEq, Prod.mk.injEq, and_true] at h1
        injection h with h
        subst h1
        subst h
        exact .inl rfl
      · cases h1
    · cases h
  · injection h with h
    exact .inr ⟨rfl, h.symm⟩

/-- A slice's parts, read as data of one type. -/
theorem rowOf_elems (h : Sim C β σ as w) {t : Ty} {v : V} {x : Value} {xs : List t.den} (hv : V3 (cx C β σ w) v x) (hr : rowOf σ t v = some xs) :
    ∃ A c, x = .slice A xs.length c ∧ xs.length ≤ c ∧ Elems (Free C σ.mem β w) w t xs A := by
  unfold rowOf at hr
  cases v <;> simp only [R.pure1] at hr <;> (try (simp [decAll, dec] at hr; done))
  · rename_i t' l
    rcases decList hr with h1 | ⟨h1, _⟩
    · injection h1 with h1 h2
      subst h1
      have h2 := eq_of_heq h2
      subst h2
      exact DRel.elems hv
    · cases h1
  · rcases decList hr with h1 | ⟨_, h1⟩
    · cases h1
    · subst h1
      have hv : x = .slice none 0 0 := hv
      exact ⟨none, 0, hv, Nat.le_refl _, fun i y hy => by simp at hy⟩
  · rename_i e
    obtain ⟨t', l, hl, hs⟩ := hv
    have hl : look σ.mem e = _ := hl
    rw [hl] at hr
    rcases decList hr with h1 | ⟨h1, _⟩
    · injection h1 with h1 h2
      subst h1
      have h2 := eq_of_heq h2
      subst h2
      obtain ⟨A, c, e1, e2, e3⟩ := own_elems (S := cx C β σ w) (h.ent e _ hl) (by omega : 0 + l.length ≤ l.length) hs
      exact ⟨A, c, e1, e2, by simpa using e3⟩
    · cases h1
  · rename_i e oo n
    obtain ⟨t', l, hl, ho, hs, _⟩ := hv
    have hl : look σ.mem e = _ := hl
    rw [hl] at hr
    rcases decList hr with h1 | ⟨h1, _⟩
    · injection h1 with h1 h2
      subst h1
      have h2 := eq_of_heq h2
      subst h2
      obtain ⟨A, c, e1, e2, e3⟩ := own_elems (S := cx C β σ w) (h.ent e _ hl) ho hs
      have hlen : ((l.drop oo).take n).length = n := by simp; omega
      exact ⟨A, c, by rw [hlen]; exact e1, by rw [hlen]; exact e2, e3⟩
    · cases h1

theorem run_first {A : Option Addr} {size m c : Nat} {news : List Value} (hl : news.length = m * size) (hc : ∀ (j : Nat) y, news[j]? = some y → ∃ p, A = some p ∧ w.cell? (p.add j) = some y) :
    (Builtin.firstCells size m (.slice A m c)).run P w = .ok news.toArray w := by
  cases A with
  | none =>
    have hn : news = [] := by
      cases news with
      | nil => rfl
      | cons y ys => obtain ⟨p, e, _⟩ := hc 0 y rfl; cases e
    subst hn
    simp [Builtin.firstCells]
  | some p =>
    refine run_firstCells_some (P := P) w size m p m c news hl fun j y hj => ?_
    obtain ⟨p', e, h⟩ := hc j y hj
    injection e with e
    subst e
    exact h

theorem run_append_in {t t2 e e2 tr : TypeId} {i : TypeInfo} {g oo sLen sCap m c : Nat} {el : TypeId} {cur : Array Value} {A : Option Addr} {news : List Value} (hu : P.underlying t = some (.slice e)) (hu2 : P.underlying t2 = some (.slice e2)) (hi : P.info? e = some i)
    (hg : w.heap[g]? = some (.cells cur el (0, 0))) (hl : news.length = m * i.size) (hc : ∀ (j : Nat) y, news[j]? = some y → ∃ p, A = some p ∧ w.cell? (p.add j) = some y) (h1 : ∀ y ∈ news, One y)
    (hroom : sLen + m ≤ sCap) (hfit : oo + sLen * i.size + news.length ≤ cur.size) :
    (Builtin.append_ #[t, t2] tr #[.slice (some ⟨g, oo, none⟩) sLen sCap, .slice A m c]).run P w =
      .ok (.slice (some ⟨g, oo, none⟩) (sLen + m) sCap) (w.setRow g (cur.toList.take (oo + sLen * i.size) ++ news ++ cur.toList.drop (oo + sLen * i.size + news.length)).toArray) := by
  have hf := run_first (P := P) (A := A) (c := c) hl hc
  have hst := run_storeCells_at P g (oo + sLen * i.size) el news 0 cur w hg (by simpa using hfit) h1
  simp only [Nat.add_zero] at hst
  simp [Builtin.append_, run_underlying hu, run_underlying hu2, sizeOf, typeInfo, hi, Builtin.lenOf, hroom, hf, Addr.add_lit, hst]

theorem run_append_nothing {t t2 e e2 tr : TypeId} {i : TypeInfo} {sLen sCap c : Nat} {B A : Option Addr} (hu : P.underlying t = some (.slice e)) (hu2 : P.underlying t2 = some (.slice e2)) (hi : P.info? e = some i) (hroom : sLen ≤ sCap) :
    (Builtin.append_ #[t, t2] tr #[.slice B sLen sCap, .slice A 0 c]).run P w = .ok (.slice B sLen sCap) w := by
  have hf : (Builtin.firstCells i.size 0 (.slice A 0 c)).run P w = .ok #[] w := by cases A <;> simp [Builtin.firstCells, loadCells, loadCellsFrom]
  cases B <;> simp [Builtin.append_, run_underlying hu, run_underlying hu2, sizeOf, typeInfo, hi, Builtin.lenOf, hroom, hf, storeCells]

theorem run_append_out {t t2 e e2 tr : TypeId} {i : TypeInfo} {z : Value} {sLen sCap m c : Nat} {B A : Option Addr} {olds news : List Value} (hu : P.underlying t = some (.slice e)) (hu2 : P.underlying t2 = some (.slice e2)) (hi : P.info? e = some i) (hz : i.zero = some z)
    (hlo : olds.length = sLen * i.size) (hco : ∀ (j : Nat) y, olds[j]? = some y → ∃ p, B = some p ∧ w.cell? (p.add j) = some y)
    (hl : news.length = m * i.size) (hc : ∀ (j : Nat) y, news[j]? = some y → ∃ p, A = some p ∧ w.cell? (p.add j) = some y)
    (hfull : sCap < sLen + m) (hbytes : (sLen + m) * i.bytes ≤ 140737488355328) (hpos : 0 < i.bytes) :
    (Builtin.append_ #[t, t2] tr #[.slice B sLen sCap, .slice A m c]).run P w =
      .ok (.slice (some ⟨w.heap.size, 0, none⟩) (sLen + m) (grownCap w (sLen + m) sCap e)) (w.drew.alloc (.cells (olds.toArray ++ news.toArray ++ Builtin.zeroCells z.cells (grownCap w (sLen + m) sCap e - (sLen + m))) e)) := by
  have hn : ¬ (sLen + m ≤ sCap) := by omega
  have hsm : sLen + m ≤ 140737488355328 := by
    have := Nat.mul_le_mul_left (sLen + m) hpos
    omega
  have h63 : ¬ (9223372036854775807 < ((sLen : Int) + (m : Int))) := by omega
  have h48 : ¬ (281474976710656 < Builtin.nextslicecap (sLen + m) sCap * i.bytes) := by
    have h1 := nextslicecap_le hfull
    have h2 := Nat.mul_le_mul_right i.bytes h1
    rw [Nat.mul_assoc] at h2
    omega
  have hf := run_first (P := P) (w := w.drew) (A := A) (c := c) hl (by simpa using hc)
  have hfo := run_first (P := P) (w := w.drew) (A := B) (c := sCap) hlo (by simpa using hco)
  simp [Builtin.append_, run_underlying hu, run_underlying hu2, sizeOf, typeInfo, zeroValue, hi, hz, Builtin.lenOf, hn, h63, h48, Question.forced, hf, hfo, newRow, grownCap]
  congr 2
  simp [← Array.append_assoc]

end
end Go.Proofs.Ytiboikgoaihccaa.R
