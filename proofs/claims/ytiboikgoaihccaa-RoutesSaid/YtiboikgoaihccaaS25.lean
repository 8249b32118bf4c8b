/-
A way without its loops.
-/
import Derived.Test.YtiboikgoaihccaaQ25
namespace Go.Proofs.Ytiboikgoaihccaa.R
set_option linter.unusedVariables false

/-- The first place from i on at which v stands. -/
def firstI (v : Int) : Nat → List Int → Option Nat
  | _, [] => none
  | i, x :: xs => bif v == x then some i else firstI v (i + 1) xs

def cutS (kept been : List Int) (l v : Int) : Option Nat → List Int × List Int
  | some j => (kept.take j, been.take (j + 1))
  | none => (kept ++ [l], been ++ [v])

def stepS (s : List Int × List Int) (l v : Int) : List Int × List Int := cutS s.1 s.2 l v (firstI v 0 s.2)

def simpL (gl : List Lk) : List Int → List Int × List Int → List Int × List Int
  | [], s => s
  | l :: ls, s => simpL gl ls (stepS s l (lk gl l).2.1)

def simpleOf (g : Gr) (src : Int) (ls : List Int) : List Int × Int :=
  bif (walkOf g src ls).2 != 0 then ([], (walkOf g src ls).2) else ((simpL g.2 ls ([], [src])).1, 0)

theorem firstI_lt (v : Int) : ∀ (xs : List Int) (i : Nat) {j : Nat}, firstI v i xs = some j → i ≤ j ∧ j < i + xs.length
  | [], i, j, h => by cases h
  | x :: xs, i, j, h => by
    simp only [firstI] at h
    cases hx : v == x with
    | true =>
      rw [hx, cT] at h
      injection h with h
      subst h
      simp
    | false =>
      rw [hx, cF] at h
      have := firstI_lt v xs (i + 1) h
      simp only [List.length_cons]
      omega

theorem stepS_len {kept been : List Int} {l v : Int} (h : been.length = kept.length + 1) : (stepS (kept, been) l v).2.length = (stepS (kept, been) l v).1.length + 1 ∧ (stepS (kept, been) l v).1.length ≤ kept.length + 1 := by
  unfold stepS
  simp only []
  cases hf : firstI v 0 been with
  | none => simp only [cutS, List.length_append, List.length_singleton]; omega
  | some j =>
    have := firstI_lt v been 0 hf
    simp only [cutS, List.length_take]
    omega

theorem walkL_get (gl : List Lk) : ∀ (ls : List Int) (v : Int) {us : List Int} {i : Nat} {l : Int}, walkL gl v ls = some us → ls[i]? = some l → us[i]? = some (lk gl l).2.1
  | [], v, us, i, l, _, hl => by simp at hl
  | x :: ls, v, us, i, l, h, hl => by
    simp only [walkL] at h
    cases h1 : (lk gl x).1 == v with
    | false => rw [h1, cF] at h; cases h
    | true =>
      rw [h1, cT] at h
      cases h2 : walkL gl (lk gl x).2.1 ls with
      | none => rw [h2] at h; cases h
      | some ws =>
        rw [h2] at h
        simp only [Option.map_some, Option.some.injEq] at h
        subst h
        cases i with
        | zero =>
          simp only [List.getElem?_cons_zero, Option.some.injEq] at hl
          subst hl
          rfl
        | succ i =>
          simp only [List.getElem?_cons_succ] at hl ⊢
          exact walkL_get gl ls _ h2 hl

theorem walkOf_ok {g : Gr} {src : Int} {ls : List Int} (h : (walkOf g src ls).2 = 0) : ∃ us, walkForm g src ls = true ∧ walkL g.2 src ls = some us ∧ walkOf g src ls = (src :: us, 0) := by
  cases hf : walkForm g src ls with
  | false => rw [walkOf_form hf] at h; simp at h
  | true =>
    cases hw : walkL g.2 src ls with
    | none => unfold walkOf at h; rw [hf, cT, hw] at h; simp at h
    | some us => exact ⟨us, rfl, rfl, by unfold walkOf; rw [hf, cT, hw]⟩

theorem walkForm_all {g : Gr} {src : Int} {ls : List Int} (h : walkForm g src ls = true) : graphMay g = true ∧ hasV g.1 src = true ∧ ls.length ≤ 64 ∧ ls.all (lkIn g.2) = true := by
  simp only [walkForm, Bool.and_eq_true, decide_eq_true_eq] at h
  exact h

theorem take0 (j : Nat) (l : List Int) : List.take ((j : Int).toNat - (0 : Nat)) (List.drop (0 : Nat) l) = l.take j := by
  rw [Int.toNat_natCast, Nat.sub_zero, List.drop_zero]

theorem f63.l1_is (k m0 : Nat) (l v g0 : Int) (ls : List Int) (i : Nat) (gl : List Lk) (kept been : List Int) (hi : i ≤ 64) (hk : kept.length ≤ 64) (hb : been.length = kept.length + 1) : ∀ (n j : Nat), j ≤ been.length → been.length < n + j →
    f63.l1 k n m0 v (been.length : Int) (j : Int) l ls (ls.length : Int) (i : Int) been g0 gl kept =
      f63.l0 k m0 ls (ls.length : Int) ((i + 1 : Nat) : Int) g0 gl (cutS kept been l v (firstI v j (been.drop j))).1 (cutS kept been l v (firstI v j (been.drop j))).2
  | 0, j, h, h' => by omega
  | n + 1, j, h, h' => by
    have hbig : decide ((kept ++ [l]).length * 8 ≤ 140737488355328) = true := by rw [List.length_append, List.length_singleton]; simp; omega
    have hbig2 : decide ((been ++ [v]).length * 8 ≤ 140737488355328) = true := by rw [List.length_append, List.length_singleton]; simp; omega
    by_cases hlt : j < been.length
    · have hx := List.getElem?_eq_getElem hlt
      rw [f63.l1_eq, idx_lt' hx, cT, idx_in hx, kT, rd_nat (t := tI) hx, List.drop_eq_getElem_cons hlt]
      simp only [firstI]
      cases hc : v == been[j] with
      | true =>
        rw [cT, cT, show decide ((j : Int) ≥ 0) = true from decide_eq_true (by omega), cT, wrap_succ (i := j) (by omega), wrap_succ (i := i) (by omega)]
        rw [chk_eq (decide_eq_true (by omega)), chk_eq (decide_eq_true (by omega)), chk_eq (decide_eq_true (by omega)), chk_eq (decide_eq_true (by omega)), take0, take0]
        rfl
      | false =>
        rw [cF, cF, wrap_succ (i := j) (by omega)]
        exact f63.l1_is k m0 l v g0 ls i gl kept been hi hk hb n (j + 1) (by omega) (by omega)
    · obtain rfl : j = been.length := by omega
      rw [f63.l1_eq, end_lt, cF, chk_eq hbig, chk_eq hbig2, wrap_succ (by omega), List.drop_length]
      rfl

theorem f63.l0_is (k : Nat) (g0 : Int) (ls : List Int) (gl : List Lk) (hl : ls.length ≤ 64) (hall : ls.all (lkIn gl) = true) (hk : 66 < k) : ∀ (n i : Nat) (kept been : List Int), i ≤ ls.length → ls.length < n + i → been.length = kept.length + 1 → kept.length ≤ i →
    f63.l0 k n ls (ls.length : Int) (i : Int) g0 gl kept been = some (resLE ((simpL gl (ls.drop i) (kept, been)).1, 0))
  | 0, i, _, _, h, h', _, _ => by omega
  | n + 1, i, kept, been, h, h', hb, hki => by
    by_cases hlt : i < ls.length
    · have hx := List.getElem?_eq_getElem hlt
      have hin : decide ((0 : Int) ≤ ls[i] ∧ ls[i] < (↑gl.length : Int)) = true := List.all_eq_true.1 hall _ (List.getElem_mem hlt)
      rw [f63.l0_eq, idx_lt' hx, cT, idx_in hx, kT, rd_some (t := tI) hx, chk_eq hin, List.drop_eq_getElem_cons hlt]
      have h1 := stepS_len (l := ls[i]) (v := (lk gl ls[i]).2.1) hb
      refine (f63.l1_is k n ls[i] (lk gl ls[i]).2.1 g0 ls i gl kept been (by omega) (by omega) hb k 0 (by omega) (by omega)).trans ?_
      simp only [simpL]
      exact f63.l0_is k g0 ls gl hl hall hk n (i + 1) (stepS (kept, been) ls[i] (lk gl ls[i]).2.1).1 (stepS (kept, been) ls[i] (lk gl ls[i]).2.1).2 (by omega) (by omega) h1.1 (by omega)
    · obtain rfl : i = ls.length := by omega
      rw [f63.l0_eq, end_lt, cF, chk_eq (decide_eq_true rfl), chk_eq (decide_eq_true rfl), List.drop_length]
      rfl

noncomputable def S63 : Summ := summ [tG, tI, tL] (List Int × Int) (fun (d : Gr × (Int × List Int)) => some (simpleOf d.1 d.2.1 d.2.2)) resLE
noncomputable def S64 : Summ := S63

theorem ok63 : SumOk Try.prog 63 S63 :=
  sum_k hmix f63.E (fn := Try.f63) (code := f63.code) (by kernel_rfl) (by kernel_rfl) (by kernel_rfl) (fun _ => ttOk) f63.sums f63.inl fun (d : Gr × (Int × List Int)) x hx => by
    obtain ⟨g, src, ls⟩ := d
    obtain rfl := Option.some.inj hx
    refine ⟨67, (f63.eq _ g src ls).trans ?_⟩
    unfold simpleOf
    cases hw : (walkOf g src ls).2 != 0 with
    | true =>
      rw [cT, cT]
    | false =>
      obtain ⟨us, h1, h2, h3⟩ := walkOf_ok (g := g) (src := src) (ls := ls) (by simpa using hw)
      obtain ⟨_, _, h4, h5⟩ := walkForm_all h1
      rw [cF, cF]
      exact f63.l0_is 67 g.1 ls g.2 h4 h5 (by omega) 67 0 [] [src] (by omega) (by omega) rfl (by simp)

theorem f64.l1_is (k m0 : Nat) (l v : Int) (ls : List Int) (i : Nat) (vs kept been : List Int) (hi : i ≤ 64) (hk : kept.length ≤ 64) (hb : been.length = kept.length + 1) (hv : vs[i + 1]? = some v) : ∀ (n j : Nat), j ≤ been.length → been.length + 1 < n + j →
    f64.l1 k n m0 ls (i : Int) (j : Int) vs (kept ++ [l]) (been ++ [v]) =
      f64.l0 k m0 ls ((i + 1 : Nat) : Int) vs (cutS kept been l v (firstI v j (been.drop j))).1 (cutS kept been l v (firstI v j (been.drop j))).2
  | 0, j, h, h' => by omega
  | n + 1, j, h, h' => by
    have hw : Go.IntKind.i64.wrap ((↑(been ++ [v]).length : Int) - (1 : Int)) = (been.length : Int) := by
      rw [List.length_append, List.length_singleton, wrap64 (by omega)]
      omega
    have hvl := (List.getElem?_eq_some_iff.1 hv).1
    by_cases hlt : j < been.length
    · have hx := List.getElem?_eq_getElem hlt
      have hx2 : (been ++ [v])[j]? = some been[j] := by rw [List.getElem?_append_left hlt]; exact hx
      rw [f64.l1_eq, hw, show decide ((j : Int) < (been.length : Int)) = true from decide_eq_true (by omega), cT, idx_in hx2, kT, wrap_succ (i := i) (by omega), idx_in hv, kT, rd_nat (t := tI) hx2, rd_nat (t := tI) hv, List.drop_eq_getElem_cons hlt]
      simp only [firstI]
      rw [Bool.beq_comm (a := v)]
      cases hc : been[j] == v with
      | true =>
        have e1 : (kept ++ [l]).take j = kept.take j := List.take_append_of_le_length (by omega)
        have e2 : (been ++ [v]).take (j + 1) = been.take (j + 1) := List.take_append_of_le_length (by omega)
        rw [cT, cT, wrap_succ (i := j) (by omega)]
        rw [chk_eq (decide_eq_true (by omega)), chk_eq (by rw [List.length_append, List.length_singleton]; exact decide_eq_true (by omega)), chk_eq (decide_eq_true (by omega)), chk_eq (by rw [List.length_append, List.length_singleton]; exact decide_eq_true (by omega)), take0, take0, e1, e2]
        obtain ⟨n', rfl⟩ : ∃ n', n = n' + 1 := ⟨n - 1, by omega⟩
        have hl2 : (been.take (j + 1)).length = j + 1 := by rw [List.length_take]; omega
        rw [f64.l1_eq, hl2, show Go.IntKind.i64.wrap ((((j + 1 : Nat)) : Int) - (1 : Int)) = (j : Int) by rw [wrap64 (by omega)]; omega, show decide ((((j + 1 : Nat)) : Int) < (j : Int)) = false from decide_eq_false (by omega), cF, wrap_succ (i := i) (by omega)]
        rfl
      | false =>
        rw [cF, cF, wrap_succ (i := j) (by omega)]
        exact f64.l1_is k m0 l v ls i vs kept been hi hk hb hv n (j + 1) (by omega) (by omega)
    · obtain rfl : j = been.length := by omega
      rw [f64.l1_eq, hw, show decide ((been.length : Int) < (been.length : Int)) = false by simp, cF, wrap_succ (by omega), List.drop_length]
      rfl

theorem f64.l0_is (k : Nat) (ls : List Int) (gl : List Lk) (vs : List Int) (hl : ls.length ≤ 64) (hvs : ∀ (i : Nat) l, ls[i]? = some l → vs[i + 1]? = some (lk gl l).2.1) (hk : 67 < k) : ∀ (n i : Nat) (kept been : List Int), i ≤ ls.length → ls.length < n + i → been.length = kept.length + 1 → kept.length ≤ i →
    f64.l0 k n ls (i : Int) vs kept been = some (resLE ((simpL gl (ls.drop i) (kept, been)).1, 0))
  | 0, i, _, _, h, h', _, _ => by omega
  | n + 1, i, kept, been, h, h', hb, hki => by
    by_cases hlt : i < ls.length
    · have hx := List.getElem?_eq_getElem hlt
      have hv := hvs i _ hx
      have hbig : decide ((kept ++ [ls[i]]).length * 8 ≤ 140737488355328) = true := by rw [List.length_append, List.length_singleton]; simp; omega
      have hbig2 : decide ((been ++ [(lk gl ls[i]).2.1]).length * 8 ≤ 140737488355328) = true := by rw [List.length_append, List.length_singleton]; simp; omega
      rw [f64.l0_eq, idx_lt' hx, cT, idx_in hx, kT, rd_some (t := tI) hx, chk_eq hbig, wrap_succ (i := i) (by omega), idx_in hv, kT, rd_nat (t := tI) hv, chk_eq hbig2, List.drop_eq_getElem_cons hlt]
      have h1 := stepS_len (l := ls[i]) (v := (lk gl ls[i]).2.1) hb
      refine (f64.l1_is k n ls[i] (lk gl ls[i]).2.1 ls i vs kept been (by omega) (by omega) hb hv k 0 (by omega) (by omega)).trans ?_
      simp only [simpL]
      exact f64.l0_is k ls gl vs hl hvs hk n (i + 1) (stepS (kept, been) ls[i] (lk gl ls[i]).2.1).1 (stepS (kept, been) ls[i] (lk gl ls[i]).2.1).2 (by omega) (by omega) h1.1 (by omega)
    · obtain rfl : i = ls.length := by omega
      rw [f64.l0_eq, end_lt, cF, List.drop_length]
      rfl

theorem ok64 : SumOk Try.prog 64 S64 :=
  sum_k hmix f64.E (fn := Try.f64) (code := f64.code) (by kernel_rfl) (by kernel_rfl) (by kernel_rfl) (fun _ => ttOk) f64.sums f64.inl fun (d : Gr × (Int × List Int)) x hx => by
    obtain ⟨g, src, ls⟩ := d
    obtain rfl := Option.some.inj hx
    refine ⟨68, (f64.eq _ g src ls).trans ?_⟩
    show _ = some (resLE (simpleOf g src ls))
    unfold simpleOf
    cases hw : (walkOf g src ls).2 != 0 with
    | true =>
      rw [cT, cT]
    | false =>
      obtain ⟨us, h1, h2, h3⟩ := walkOf_ok (g := g) (src := src) (ls := ls) (by simpa using hw)
      obtain ⟨_, _, h4, h5⟩ := walkForm_all h1
      rw [cF, cF, h3]
      exact f64.l0_is 68 ls g.2 (src :: us) h4 (fun i l hl => by rw [List.getElem?_cons_succ]; exact walkL_get g.2 ls src h2 hl) (by omega) 68 0 [] [src] (by omega) (by omega) rfl (by simp)

end Go.Proofs.Ytiboikgoaihccaa.R
