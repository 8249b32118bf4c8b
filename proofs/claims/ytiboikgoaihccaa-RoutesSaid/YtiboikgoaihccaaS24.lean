/-
Links one behind the other.
-/
import Derived.Test.YtiboikgoaihccaaQ24
namespace Go.Proofs.Ytiboikgoaihccaa.R
set_option linter.unusedVariables false

abbrev lk (ls : List Lk) (i : Int) : Lk := rd tLk ls i

/-- The vertices to which links lead from v on. -/
def walkL (gl : List Lk) : Int → List Int → Option (List Int)
  | _, [] => some []
  | v, l :: ls => bif (lk gl l).1 == v then (walkL gl (lk gl l).2.1 ls).map fun vs => (lk gl l).2.1 :: vs else none

def lkIn (gl : List Lk) (l : Int) : Bool := decide (0 ≤ l ∧ l < (gl.length : Int))

def walkForm (g : Gr) (src : Int) (ls : List Int) : Bool := graphMay g && (hasV g.1 src && (decide (ls.length ≤ 64) && ls.all (lkIn g.2)))

def walkOf (g : Gr) (src : Int) (ls : List Int) : List Int × Int :=
  bif walkForm g src ls then (match walkL g.2 src ls with
    | some vs => (src :: vs, 0)
    | none => ([], 601)) else ([], 600)

theorem lkIn_false {gl : List Lk} {l : Int} (h : lkIn gl l = false) : decide (l < 0) = true ∨ decide (l < 0) = false ∧ decide (l ≥ (gl.length : Int)) = true := by
  have h := of_decide_eq_false h
  by_cases h1 : l < 0
  · exact .inl (decide_eq_true h1)
  · exact .inr ⟨decide_eq_false h1, decide_eq_true (by omega)⟩

theorem walkL_len (gl : List Lk) : ∀ (ls : List Int) (v : Int) {vs : List Int}, walkL gl v ls = some vs → vs.length = ls.length
  | [], v, vs, h => by
    simp only [walkL, Option.some.injEq] at h
    subst h
    rfl
  | l :: ls, v, vs, h => by
    simp only [walkL] at h
    cases h1 : (lk gl l).1 == v with
    | false => rw [h1, cF] at h; cases h
    | true =>
      rw [h1, cT] at h
      cases h2 : walkL gl (lk gl l).2.1 ls with
      | none => rw [h2] at h; cases h
      | some us =>
        rw [h2] at h
        simp only [Option.map_some, Option.some.injEq] at h
        subst h
        simp only [List.length_cons]
        rw [walkL_len gl ls _ h2]

/-- What comes of a walk that goes on. -/
def walkRes (at_ : List Int) (r : Option (List Int)) : Option V := match r with
  | some vs => some (resLE (at_ ++ vs, 0))
  | none => some (resLE ([], 601))

theorem rd_nat {t : Ty} {l : List t.den} {i : Nat} {x : t.den} (h : l[i]? = some x) : rd t l (↑(i : Int).toNat : Int) = x := by
  rw [Int.toNat_natCast]
  exact rd_some h

theorem f58.l1_is (k : Nat) (ls : List Int) (n0 : Int) (gl : List Lk) (hl : ls.length ≤ 64) (hall : ls.all (lkIn gl) = true) : ∀ (n i : Nat) (at_ : List Int) (v : Int), i ≤ ls.length → ls.length < n + i → at_.length = i + 1 → at_[i]? = some v →
    f58.l1 k n ls (ls.length : Int) (i : Int) n0 gl at_ = walkRes at_ (walkL gl v (ls.drop i))
  | 0, i, _, _, h, h', _, _ => by omega
  | n + 1, i, at_, v, h, h', ha, hv => by
    by_cases hlt : i < ls.length
    · have hx := List.getElem?_eq_getElem hlt
      have hin : decide ((0 : Int) ≤ ls[i] ∧ ls[i] < (↑gl.length : Int)) = true := List.all_eq_true.1 hall _ (List.getElem_mem hlt)
      have hb : decide ((0 : Int) ≤ (i : Int) ∧ (i : Int) < (↑at_.length : Int)) = true := decide_eq_true (by omega)
      rw [f58.l1_eq, idx_lt' hx, cT, idx_in hx, kT, rd_some (t := tI) hx, chk_eq hin, chk_eq hb, rd_nat (t := tI) hv, List.drop_eq_getElem_cons hlt]
      simp only [walkL]
      cases hc : (lk gl ls[i]).1 == v with
      | false =>
        rw [show ((rd tLk gl ls[i]).1 != v) = true by simp only [bne]; rw [hc]; rfl, cT, cF]
        rfl
      | true =>
        rw [show ((rd tLk gl ls[i]).1 != v) = false by simp only [bne]; rw [hc]; rfl, cF, cT, chk_eq hin, chk_eq (by rw [List.length_append, List.length_singleton]; simp; omega), wrap_succ (by omega)]
        rw [f58.l1_is k ls n0 gl hl hall n (i + 1) (at_ ++ [(lk gl ls[i]).2.1]) (lk gl ls[i]).2.1 (by omega) (by omega) (by rw [List.length_append, List.length_singleton]; omega) (by rw [List.getElem?_append_right (by omega), ha]; simp)]
        cases walkL gl (lk gl ls[i]).2.1 (ls.drop (i + 1)) with
        | none => rfl
        | some vs => simp [walkRes]
    · obtain rfl : i = ls.length := by omega
      rw [f58.l1_eq, end_lt, cF, List.drop_length]
      simp [walkL, walkRes, resLE]

theorem f58.l0_is (k : Nat) (src : Int) (ls : List Int) (n0 : Int) (gl : List Lk) (hl : ls.length ≤ 64) :
    f58.l0 (k + 65) (k + 65) src ls (ls.length : Int) 0 n0 gl = bif ls.any (fun l => !lkIn gl l) then some (resLE ([], 600)) else f58.l1 (k + 65) (k + 65) ls (ls.length : Int) 0 n0 gl [src] :=
  loop_any0 (fun n i => f58.l0 (k + 65) n src ls (ls.length : Int) (i : Nat) n0 gl) ls (fun l => !lkIn gl l) (some (resLE ([], 600))) _ (fun n i x hx => by
    have := idx_lt hx
    rw [f58.l0_eq, idx_lt' hx, idx_in hx, rd_some (t := tI) hx, wrap_succ (by omega), cT, kT]
    cases hc : lkIn gl x with
    | true =>
      have hc := of_decide_eq_true hc
      rw [show decide (x ≥ 0) = true from decide_eq_true hc.1, cT, show decide (x < (↑gl.length : Int)) = true from decide_eq_true hc.2, Bool.not_true]
    | false =>
      rw [Bool.not_false, cT]
      rcases lkIn_false hc with h1 | ⟨h1, h2⟩
      · have h1 := of_decide_eq_true h1
        rw [show decide (x ≥ 0) = false from decide_eq_false (by omega), cF]
      · have h1 := of_decide_eq_false h1
        have h2 := of_decide_eq_true h2
        rw [show decide (x ≥ 0) = true from decide_eq_true (by omega), cT, show decide (x < (↑gl.length : Int)) = false from decide_eq_false (by omega), Bool.not_false, cT]) (fun n => by rw [f58.l0_eq, end_lt, cF]) (n := k + 65) (by omega)

theorem any_lk (gl : List Lk) (ls : List Int) : (ls.any fun l => !lkIn gl l) = !ls.all (lkIn gl) := by
  induction ls with
  | nil => rfl
  | cons l ls ih => simp only [List.any_cons, List.all_cons]; rw [ih]; cases lkIn gl l <;> rfl

noncomputable def S58 : Summ := summ [tG, tI, tL] (List Int × Int) (fun (d : Gr × (Int × List Int)) => some (walkOf d.1 d.2.1 d.2.2)) resLE
noncomputable def S59 : Summ := S58

theorem walkOf_walk {g : Gr} {src : Int} {ls : List Int} (h : walkForm g src ls = true) : some (resLE (walkOf g src ls)) = walkRes [src] (walkL g.2 src ls) := by
  unfold walkOf
  rw [h, cT]
  cases walkL g.2 src ls <;> rfl

theorem walkOf_form {g : Gr} {src : Int} {ls : List Int} (h : walkForm g src ls = false) : walkOf g src ls = ([], 600) := by
  unfold walkOf
  rw [h, cF]

theorem f58.is (g : Gr) (src : Int) (ls : List Int) : evFn (f58.E 65) 9 58 Try.f58 (encL [tG, tI, tL] (g, src, ls)) = some (resLE (walkOf g src ls)) := by
  refine (f58.eq _ g src ls).trans ?_
  cases h1 : graphMay g with
  | false => rw [Bool.not_false, cT, walkOf_form (by unfold walkForm; rw [h1]; rfl)]
  | true =>
    rw [Bool.not_true, cF]
    cases h2 : hasV g.1 src with
    | false => rw [Bool.not_false, cT, walkOf_form (by unfold walkForm; rw [h1, h2]; rfl)]
    | true =>
      rw [Bool.not_true, cF]
      by_cases h3 : ls.length ≤ 64
      · rw [show decide ((↑ls.length : Int) > (64 : Int)) = false from decide_eq_false (by omega), cF, f58.l0_is 0 src ls g.1 g.2 h3, any_lk]
        cases h4 : ls.all (lkIn g.2) with
        | false => rw [Bool.not_false, cT, walkOf_form (by unfold walkForm; rw [h1, h2, h4]; simp)]
        | true =>
          rw [Bool.not_true, cF, walkOf_walk (by unfold walkForm; rw [h1, h2, h4]; simp [h3])]
          exact f58.l1_is _ ls g.1 g.2 h3 h4 65 0 [src] src (by omega) (by omega) rfl rfl
      · rw [show decide ((↑ls.length : Int) > (64 : Int)) = true from decide_eq_true (by omega), cT, walkOf_form (by unfold walkForm; rw [h1, h2, decide_eq_false h3]; simp)]

theorem ok58 : SumOk Try.prog 58 S58 :=
  sum_k hmix f58.E (fn := Try.f58) (code := f58.code) (by kernel_rfl) (by kernel_rfl) (by kernel_rfl) (fun _ => ttOk) f58.sums f58.inl fun (d : Gr × (Int × List Int)) x hx => by
    obtain rfl := Option.some.inj hx
    exact ⟨65, f58.is d.1 d.2.1 d.2.2⟩

theorem f59.l1_is (k : Nat) (ls : List Int) (n0 : Int) (gl : List Lk) (hl : ls.length ≤ 64) (hall : ls.all (lkIn gl) = true) : ∀ (n i : Nat) (at_ : List Int) (v : Int), i ≤ ls.length → ls.length < n + i → at_.length = i + 1 → at_[i]? = some v →
    f59.l1 k n ls (i : Int) n0 gl at_ = walkRes at_ (walkL gl v (ls.drop i))
  | 0, i, _, _, h, h', _, _ => by omega
  | n + 1, i, at_, v, h, h', ha, hv => by
    by_cases hlt : i < ls.length
    · have hx := List.getElem?_eq_getElem hlt
      have hin : decide ((0 : Int) ≤ ls[i] ∧ ls[i] < (↑gl.length : Int)) = true := List.all_eq_true.1 hall _ (List.getElem_mem hlt)
      have hb : decide ((0 : Int) ≤ (i : Int) ∧ (i : Int) < (↑at_.length : Int)) = true := decide_eq_true (by omega)
      rw [f59.l1_eq, idx_lt' hx, cT, idx_in hx, kT, rd_some (t := tI) hx, chk_eq hin, chk_eq hb, rd_nat (t := tI) hv, List.drop_eq_getElem_cons hlt]
      simp only [walkL]
      cases hc : (lk gl ls[i]).1 == v with
      | false =>
        rw [show ((rd tLk gl ls[i]).1 != v) = true by simp only [bne]; rw [hc]; rfl, cT, cF]
        rfl
      | true =>
        rw [show ((rd tLk gl ls[i]).1 != v) = false by simp only [bne]; rw [hc]; rfl, cF, cT, kT, chk_eq hin, chk_eq (by rw [List.length_append, List.length_singleton]; simp; omega), wrap_succ (by omega)]
        rw [f59.l1_is k ls n0 gl hl hall n (i + 1) (at_ ++ [(lk gl ls[i]).2.1]) (lk gl ls[i]).2.1 (by omega) (by omega) (by rw [List.length_append, List.length_singleton]; omega) (by rw [List.getElem?_append_right (by omega), ha]; simp)]
        cases walkL gl (lk gl ls[i]).2.1 (ls.drop (i + 1)) with
        | none => rfl
        | some vs => simp [walkRes]
    · obtain rfl : i = ls.length := by omega
      rw [f59.l1_eq, end_lt, cF, List.drop_length]
      simp [walkL, walkRes, resLE]

theorem f59.l0_is (k : Nat) (src : Int) (ls : List Int) (n0 : Int) (gl : List Lk) (hl : ls.length ≤ 64) :
    f59.l0 (k + 65) (k + 65) ls 0 src n0 gl = bif ls.any (fun l => !lkIn gl l) then some (resLE ([], 600)) else f59.l1 (k + 65) (k + 65) ls 0 n0 gl [src] :=
  loop_any0 (fun n i => f59.l0 (k + 65) n ls (i : Nat) src n0 gl) ls (fun l => !lkIn gl l) (some (resLE ([], 600))) _ (fun n i x hx => by
    have := idx_lt hx
    rw [f59.l0_eq, idx_lt' hx, idx_in hx, rd_some (t := tI) hx, wrap_succ (by omega), cT, kT, kT]
    cases hc : lkIn gl x with
    | true =>
      have hc := of_decide_eq_true hc
      rw [show decide (x < 0) = false from decide_eq_false (by omega), cF, show decide (x ≥ (↑gl.length : Int)) = false from decide_eq_false (by omega), cF, Bool.not_true, cF]
    | false =>
      rw [Bool.not_false, cT]
      rcases lkIn_false hc with h1 | ⟨h1, h2⟩
      · rw [h1, cT]
      · rw [h1, cF, h2, cT]) (fun n => by rw [f59.l0_eq, end_lt, cF]) (n := k + 65) (by omega)

theorem ok59 : SumOk Try.prog 59 S59 :=
  sum_k hmix f59.E (fn := Try.f59) (code := f59.code) (by kernel_rfl) (by kernel_rfl) (by kernel_rfl) (fun _ => ttOk) f59.sums f59.inl fun (d : Gr × (Int × List Int)) x hx => by
    obtain ⟨g, src, ls⟩ := d
    obtain rfl := Option.some.inj hx
    refine ⟨65, (f59.eq _ g src ls).trans ?_⟩
    cases h1 : graphMay g with
    | false => rw [Bool.not_false, cT, walkOf_form (by unfold walkForm; rw [h1]; rfl)]
    | true =>
      rw [Bool.not_true, cF]
      cases h2 : hasV g.1 src with
      | false => rw [Bool.not_false, cT, walkOf_form (by unfold walkForm; rw [h1, h2]; rfl)]
      | true =>
        rw [Bool.not_true, cF]
        by_cases h3 : ls.length ≤ 64
        · rw [show decide ((↑ls.length : Int) > (64 : Int)) = false from decide_eq_false (by omega), cF, f59.l0_is 0 src ls g.1 g.2 h3, any_lk]
          cases h4 : ls.all (lkIn g.2) with
          | false => rw [Bool.not_false, cT, walkOf_form (by unfold walkForm; rw [h1, h2, h4]; simp)]
          | true =>
            rw [Bool.not_true, cF]
            refine Eq.trans ?_ (walkOf_walk (by unfold walkForm; rw [h1, h2, h4]; simp [h3])).symm
            exact f59.l1_is _ ls g.1 g.2 h3 h4 65 0 [src] src (by omega) (by omega) rfl rfl
        · rw [show decide ((↑ls.length : Int) > (64 : Int)) = true from decide_eq_true (by omega), cT, walkOf_form (by unfold walkForm; rw [h1, h2, decide_eq_false h3]; simp)]

end Go.Proofs.Ytiboikgoaihccaa.R
