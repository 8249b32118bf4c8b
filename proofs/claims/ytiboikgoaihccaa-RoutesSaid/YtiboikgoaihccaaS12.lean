/-
Vertices of a graph that may be; caps of a graph; links out of a vertex.
-/
import Derived.Test.YtiboikgoaihccaaQ12
namespace Go.Proofs.Ytiboikgoaihccaa.R
set_option linter.unusedVariables false

noncomputable def S88 : Summ := summ [tG, tL] Bool (fun (d : Gr × List Int) => chk (decide (d.2.length < 4611686018427387904)) (some (risingB d.1.1 none d.2 && graphMay d.1))) .bool

theorem f88.l0_is (k : Nat) (g : Gr) (vs : List Int) (hl : vs.length < 4611686018427387904) : ∀ (n i : Nat), i ≤ vs.length → vs.length < n + i →
    f88.l0 k n vs vs.length i g.1 g.2 = some (.bool (risingB g.1 (ahead vs i) (vs.drop i) && graphMay g))
  | 0, i, h, h' => by omega
  | n + 1, i, h, h' => by
    by_cases hlt : i < vs.length
    · have hx := List.getElem?_eq_getElem hlt
      have ih := f88.l0_is k g vs hl n (i + 1) (by omega) (by omega)
      have ha : ahead vs (i + 1) = some vs[i] := by unfold ahead; rw [if_neg (by omega)]; exact hx
      rw [ha] at ih
      rw [f88.l0_eq, idx_lt' hx, idx_in hx, rd_some (t := tI) hx, wrap_succ (by omega), cT, kT, List.drop_eq_getElem_cons hlt, ih]
      simp only [risingB]
      cases hasV g.1 vs[i] with
      | false => rw [Bool.not_false, cT, Bool.false_and, Bool.false_and]
      | true =>
        rw [Bool.not_true, cF, Bool.true_and]
        by_cases h0 : i = 0
        · subst h0
          rw [show decide (((0 : Nat) : Int) > 0) = false by simp, cF]
          rfl
        · have hy : vs[i - 1]? = some vs[i - 1] := List.getElem?_eq_getElem (by omega)
          have ha2 : ahead vs i = some vs[i - 1] := by unfold ahead; rw [if_neg h0]; exact hy
          rw [ha2, show decide ((i : Int) > 0) = true by simp; omega, cT, wrap64 (n := (i : Int) - 1) (by omega), show ((i : Int) - 1) = ((i - 1 : Nat) : Int) by omega, idx_in hy, kT, rd_some (t := tI) hy]
          simp only
          by_cases hc : vs[i] ≤ vs[i - 1]
          · rw [decide_eq_true hc, cT, decide_eq_false (by omega), Bool.false_and, Bool.false_and]
          · rw [decide_eq_false hc, cF, decide_eq_true (by omega), Bool.true_and]
    · obtain rfl : i = vs.length := by omega
      rw [f88.l0_eq, end_lt, cF, List.drop_length]
      rfl

theorem ok88 : SumOk Try.prog 88 S88 :=
  sum_k hmix f88.E (fn := Try.f88) (code := f88.code) (by kernel_rfl) (by kernel_rfl) (by kernel_rfl) (fun _ => ttOk) f88.sums f88.inl fun (d : Gr × List Int) x hx => by
    obtain ⟨hb, hx⟩ := chk_some hx
    obtain rfl := Option.some.inj hx
    have hb : d.2.length < 4611686018427387904 := by simpa using hb
    exact ⟨d.2.length + 1, (f88.eq _ d.1 d.2).trans (f88.l0_is _ d.1 d.2 hb _ 0 (by omega) (by omega))⟩

def capBad (x : Int × Lk) : Bool := !decide (0 ≤ x.1 ∧ x.1 ≤ x.2.2.2)

theorem withinL_zip : ∀ {cs : List Int} {ls : List Lk}, cs.length = ls.length → withinL cs ls = !((cs.zip ls).any capBad)
  | [], [], _ => rfl
  | c :: cs, l :: ls, h => by
    simp only [List.length_cons, Nat.add_right_cancel_iff] at h
    simp only [withinL, List.zip_cons_cons, List.any_cons, withinL_zip h, capBad]
    cases decide (0 ≤ c ∧ c ≤ l.2.2) <;> rfl
  | [], _ :: _, h => by simp at h
  | _ :: _, [], h => by simp at h

theorem cap_tree (c : Int) (l : Lk) (x : Option V) : (bif decide (c < 0) then some (V.bool false) else (bif decide (c > l.2.2) then (some (.bool false)) else x)) = bif capBad (c, l) then some (.bool false) else x := by
  unfold capBad
  by_cases h1 : c < 0
  · rw [decide_eq_true h1, cT, decide_eq_false (fun h => absurd h.1 (by omega)), Bool.not_false, cT]
  · by_cases h2 : c > l.2.2
    · rw [decide_eq_false h1, cF, decide_eq_true h2, cT, decide_eq_false (fun h => by have := h.2; simp only at this; omega), Bool.not_false, cT]
    · rw [decide_eq_false h1, cF, decide_eq_false h2, cF, decide_eq_true (show 0 ≤ c ∧ c ≤ l.2.2 from ⟨by omega, by omega⟩), Bool.not_true, cF]

noncomputable def S95 : Summ := summ [tG, tL] Bool (fun (d : Gr × List Int) => some (capsMay d.1 d.2)) .bool
noncomputable def S49 : Summ := S95

theorem links_few {g : Gr} (h : graphMay g = true) : g.2.length ≤ 16 := by
  simp only [graphMay, shapeB, Bool.and_eq_true] at h
  exact of_decide_eq_true h.1.2.1

theorem caps_tree (g : Gr) (cs : List Int) (x : Option V) (h : graphMay g = true → cs.length = g.2.length → x = bif (cs.zip g.2).any capBad then some (.bool false) else some (.bool true)) :
    (bif !graphMay g then some (V.bool false) else (bif (cs.length : Int) != (g.2.length : Int) then (some (.bool false)) else x)) = some (.bool (capsMay g cs)) := by
  unfold capsMay
  cases hg : graphMay g with
  | false => rw [Bool.not_false, cT, Bool.false_and]
  | true =>
    rw [Bool.not_true, cF, Bool.true_and]
    by_cases hl : cs.length = g.2.length
    · rw [show ((cs.length : Int) != (g.2.length : Int)) = false by simp [hl], cF, h hg hl, withinL_zip hl]
      cases (cs.zip g.2).any capBad <;> rfl
    · rw [show ((cs.length : Int) != (g.2.length : Int)) = true by simp; omega, cT]
      cases hw : withinL cs g.2 with
      | false => rfl
      | true => exact absurd (withinL_len hw) hl

theorem ok95 : SumOk Try.prog 95 S95 :=
  sum_k hmix f95.E (fn := Try.f95) (code := f95.code) (by kernel_rfl) (by kernel_rfl) (by kernel_rfl) (fun _ => ttOk) f95.sums f95.inl fun (d : Gr × List Int) x hx => by
    obtain ⟨g, cs⟩ := d
    obtain rfl := Option.some.inj hx
    refine ⟨17, (f95.eq _ g cs).trans (caps_tree g cs _ fun hg hl => ?_)⟩
    have h16 := links_few hg
    have hz : (cs.zip g.2).length = cs.length := by simp [hl]
    exact loop_any0 (fun n i => f95.l0 17 n cs cs.length (i : Nat) g.1 g.2) (cs.zip g.2) capBad (some (.bool false)) (some (.bool true)) (fun n i x hx => by
      obtain ⟨ha, hb⟩ := zip_get hx
      have := idx_lt ha
      rw [f95.l0_eq, idx_lt' ha, idx_in ha, idx_in hb, rd_some (t := tI) ha, rd_some (t := tLk) hb, wrap_succ (by omega), cT, kT, kT, cap_tree]) (fun n => by rw [hz, f95.l0_eq, end_lt, cF]) (by omega)

theorem ok49 : SumOk Try.prog 49 S49 :=
  sum_k hmix f49.E (fn := Try.f49) (code := f49.code) (by kernel_rfl) (by kernel_rfl) (by kernel_rfl) (fun _ => ttOk) f49.sums f49.inl fun (d : Gr × List Int) x hx => by
    obtain ⟨g, cs⟩ := d
    obtain rfl := Option.some.inj hx
    refine ⟨17, (f49.eq _ g cs).trans (caps_tree g cs _ fun hg hl => ?_)⟩
    have h16 := links_few hg
    have hz : (cs.zip g.2).length = cs.length := by simp [hl]
    exact loop_any0 (fun n i => f49.l0 17 n cs (i : Nat) g.1 g.2) (cs.zip g.2) capBad (some (.bool false)) (some (.bool true)) (fun n i x hx => by
      obtain ⟨ha, hb⟩ := zip_get hx
      have := idx_lt ha
      rw [f49.l0_eq, idx_lt' ha, idx_in ha, idx_in hb, rd_some (t := tI) ha, rd_some (t := tLk) hb, wrap_succ (by omega), cT, kT, kT, kT, cap_tree]) (fun n => by rw [hz, f49.l0_eq, end_lt, cF]) (by omega)

/-- Links that begin at a vertex. -/
def outFrom (v : Int) : Nat → List Lk → List Int
  | _, [] => []
  | i, l :: ls => bif l.1 == v then (i : Int) :: outFrom v (i + 1) ls else outFrom v (i + 1) ls
def outsOf (g : Gr) (v : Int) : List Int × Int := bif graphMay g && hasV g.1 v then (outFrom v 0 g.2, 0) else ([], 400)

noncomputable def S50 : Summ := summ [tG, tI] (List Int × Int) (fun (d : Gr × Int) => some (outsOf d.1 d.2)) resLE

theorem f50.l0_is (k : Nat) (g : Gr) (v : Int) (hl : g.2.length ≤ 16) : ∀ (n i : Nat) (acc : List Int), i ≤ g.2.length → g.2.length < n + i → acc.length ≤ i →
    f50.l0 k n v i g.1 g.2 acc = some (resLE (acc ++ outFrom v i (g.2.drop i), 0))
  | 0, i, _, h, h', _ => by omega
  | n + 1, i, acc, h, h', ha => by
    by_cases hlt : i < g.2.length
    · have hx := List.getElem?_eq_getElem hlt
      rw [f50.l0_eq, idx_lt' hx, idx_in hx, rd_some (t := tLk) hx, wrap_succ (by omega), cT, kT, List.drop_eq_getElem_cons hlt, f50.l0_is k g v hl n (i + 1) acc (by omega) (by omega) (by omega), f50.l0_is k g v hl n (i + 1) (acc ++ [(i : Int)]) (by omega) (by omega) (by rw [List.length_append, List.length_singleton]; omega)]
      rw [chk_eq (b := decide ((acc ++ [(i : Int)]).length * 8 ≤ 140737488355328)) (by rw [List.length_append, List.length_singleton]; simp; omega)]
      simp only [outFrom]
      cases g.2[i].1 == v <;> simp
    · obtain rfl : i = g.2.length := by omega
      rw [f50.l0_eq, end_lt, cF, List.drop_length]
      simp [outFrom]

theorem ok50 : SumOk Try.prog 50 S50 :=
  sum_k hmix f50.E (fn := Try.f50) (code := f50.code) (by kernel_rfl) (by kernel_rfl) (by kernel_rfl) (fun _ => ttOk) f50.sums f50.inl fun (d : Gr × Int) x hx => by
    obtain ⟨g, v⟩ := d
    obtain rfl := Option.some.inj hx
    refine ⟨17, (f50.eq _ g v).trans ?_⟩
    unfold outsOf
    cases hg : graphMay g with
    | false => rw [Bool.not_false, cT, Bool.false_and, cF]
    | true =>
      cases hasV g.1 v with
      | false => rw [Bool.not_true, cF, Bool.not_false, cT, Bool.and_false, cF]
      | true =>
        have h16 := links_few hg
        rw [Bool.not_true, cF, cF, Bool.and_self, cT]
        exact f50.l0_is 17 g v h16 17 0 [] (by omega) (by omega) (by simp)

end Go.Proofs.Ytiboikgoaihccaa.R
