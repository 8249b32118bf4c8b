/-
What links out of a set take together.
-/
import Derived.Test.YtiboikgoaihccaaQ14
namespace Go.Proofs.Ytiboikgoaihccaa.R
set_option linter.unusedVariables false

@[reducible] def resII (x : Int × Int) : V := .tup [.int .i64 x.1, .int .i64 x.2]

/-- Element l, as a plain number. -/
def rdI (cs : List Int) (l : Int) : Int := rd (Ty.int Go.IntKind.i64) cs l
theorem rdI_eq {cs : List Int} {l : Int} : rd (Ty.int Go.IntKind.i64) cs l = rdI cs l := rfl
theorem rdI_some {cs : List Int} {i : Nat} {x : Int} (h : cs[i]? = some x) : rdI cs (i : Int) = x := rd_some (t := tI) h

def pickSum (cs : List Int) (L : List Int) : Int := (L.map fun l => rdI cs l).sum

theorem leave_in (vs : List Int) : ∀ (ls : List Lk) (i : Nat), ∀ l ∈ leaveFrom vs i ls, ∃ j : Nat, l = (j : Int) ∧ i ≤ j ∧ j < i + ls.length
  | [], _, l, h => by simp [leaveFrom] at h
  | x :: ls, i, l, h => by
    have key : l ∈ leaveFrom vs (i + 1) ls → ∃ j : Nat, l = (j : Int) ∧ i ≤ j ∧ j < i + (x :: ls).length := fun h => by
      obtain ⟨j, h1, h2, h3⟩ := leave_in vs ls (i + 1) l h
      exact ⟨j, h1, by omega, by simp only [List.length_cons]; omega⟩
    simp only [leaveFrom] at h
    cases hb : leavesB vs x with
    | false => rw [hb, cF] at h; exact key h
    | true =>
      rw [hb, cT] at h
      rcases List.mem_cons.1 h with rfl | h
      · exact ⟨i, rfl, Nat.le_refl _, by simp⟩
      · exact key h

theorem leave_len (vs : List Int) : ∀ (ls : List Lk) (i : Nat), (leaveFrom vs i ls).length ≤ ls.length
  | [], _ => by simp [leaveFrom]
  | x :: ls, i => by
    have := leave_len vs ls (i + 1)
    simp only [leaveFrom]
    cases leavesB vs x
    · rw [cF]; simp only [List.length_cons]; omega
    · rw [cT]; simp only [List.length_cons]; omega

theorem pick_leave (vs cs : List Int) : ∀ (ls : List Lk) (i : Nat), (cs.drop i).length = ls.length → pickSum cs (leaveFrom vs i ls) = worthL vs ls (cs.drop i)
  | [], i, h => by
    have : cs.drop i = [] := List.length_eq_zero_iff.1 h
    simp [leaveFrom, pickSum, worthL]
  | x :: ls, i, h => by
    have hlt : i < cs.length := by
      rw [List.length_drop, List.length_cons] at h
      omega
    have hc : cs[i]? = some cs[i] := List.getElem?_eq_getElem hlt
    have ih := pick_leave vs cs ls (i + 1) (by rw [List.length_drop, List.length_cons] at h; rw [List.length_drop]; omega)
    rw [List.drop_eq_getElem_cons hlt]
    simp only [leaveFrom, worthL]
    rw [← ih]
    cases leavesB vs x
    · rw [cF, cF, Int.zero_add]
    · rw [cT, cT]
      unfold pickSum
      rw [List.map_cons, List.sum_cons, rdI_some hc]

theorem pick_lo {cs L : List Int} (h : ∀ l ∈ L, 0 ≤ rdI cs l) : 0 ≤ pickSum cs L := sum_nonneg' _ fun x hx => by
  obtain ⟨l, hl, rfl⟩ := List.mem_map.1 hx
  exact h l hl

/-- Numbers of links of which all have caps. -/
def GoodL (cs L : List Int) : Prop := ∀ l ∈ L, (0 ≤ l ∧ l < (cs.length : Int)) ∧ 0 ≤ rdI cs l

theorem sumTold1 {c : Int} (h : 0 ≤ c ∧ c ≤ maxRate) : sumTold [c] = (c, true) := by
  unfold sumTold
  simp only [sumUp]
  rw [decide_eq_true (by simpa using h), cT, Int.zero_add]

theorem sumTold2 {a c : Int} (ha : 0 ≤ a ∧ a ≤ maxRate) (hc : 0 ≤ c) (h : a + c ≤ maxRate) : sumTold [a, c] = (a + c, true) := by
  unfold sumTold
  simp only [sumUp]
  rw [decide_eq_true (by simpa using ha), cT, decide_eq_true ⟨hc, by omega⟩, cT, Int.zero_add]

theorem idxI_in {cs : List Int} {l : Int} (h : 0 ≤ l ∧ l < (cs.length : Int)) : decide (0 ≤ l ∧ l < (cs.length : Int)) = true := decide_eq_true h

theorem f45.l0_is (k : Nat) (cs L : List Int) (hL : L.length ≤ 16) (hg : GoodL cs L) : ∀ (n i : Nat) (a : Int), i ≤ L.length → L.length < n + i → 0 ≤ a → a + pickSum cs (L.drop i) ≤ maxRate →
    f45.l0 k n cs a i L = some (resII (a + pickSum cs (L.drop i), 0))
  | 0, i, _, h, h', _, _ => by omega
  | n + 1, i, a, h, h', h0, h1 => by
    by_cases hlt : i < L.length
    · have hx := List.getElem?_eq_getElem hlt
      have hgd := hg L[i] (List.getElem_mem hlt)
      rw [List.drop_eq_getElem_cons hlt] at h1 ⊢
      have hrest : 0 ≤ pickSum cs (L.drop (i + 1)) := pick_lo fun l hl => (hg l (List.mem_of_mem_drop hl)).2
      have e : pickSum cs (L[i] :: L.drop (i + 1)) = rdI cs L[i] + pickSum cs (L.drop (i + 1)) := by unfold pickSum; rw [List.map_cons, List.sum_cons]
      rw [e] at h1 ⊢
      have h1' : a + (rdI cs L[i] + pickSum cs (L.drop (i + 1))) ≤ 4611686018427387904 := h1
      have hc := hgd.2
      rw [f45.l0_eq, idx_lt' hx, idx_in hx, Int.toNat_natCast, rd_some (t := tI) hx, wrap_succ (by omega), cT, kT, idxI_in hgd.1, kT, rdI_eq]
      have hw : Go.IntKind.i64.wrap (a + rdI cs L[i]) = a + rdI cs L[i] := wrap64 (by constructor <;> omega)
      rw [hw, f45.l0_is k cs L hL hg n (i + 1) (a + rdI cs L[i]) (by omega) (by omega) (by have := hgd.2; omega) (show a + rdI cs L[i] + pickSum cs (L.drop (i + 1)) ≤ 4611686018427387904 by omega), Int.add_assoc]
    · obtain rfl : i = L.length := by omega
      rw [f45.l0_eq, end_lt, cF, List.drop_length]
      simp [pickSum]

theorem f44.l0_is (k : Nat) (cs L : List Int) (hL : L.length ≤ 16) (hg : GoodL cs L) : ∀ (n i : Nat) (a : Int), i ≤ L.length → L.length < n + i → 0 ≤ a → a + pickSum cs (L.drop i) ≤ maxRate →
    f44.l0 k n cs L.length i a L = some (resII (a + pickSum cs (L.drop i), 0))
  | 0, i, _, h, h', _, _ => by omega
  | n + 1, i, a, h, h', h0, h1 => by
    by_cases hlt : i < L.length
    · have hx := List.getElem?_eq_getElem hlt
      have hgd := hg L[i] (List.getElem_mem hlt)
      rw [List.drop_eq_getElem_cons hlt] at h1 ⊢
      have hrest : 0 ≤ pickSum cs (L.drop (i + 1)) := pick_lo fun l hl => (hg l (List.mem_of_mem_drop hl)).2
      have e : pickSum cs (L[i] :: L.drop (i + 1)) = rdI cs L[i] + pickSum cs (L.drop (i + 1)) := by unfold pickSum; rw [List.map_cons, List.sum_cons]
      rw [e] at h1 ⊢
      have h1' : a + (rdI cs L[i] + pickSum cs (L.drop (i + 1))) ≤ 4611686018427387904 := h1
      have hc := hgd.2
      have hcm : rdI cs L[i] ≤ 4611686018427387904 := by omega
      have hac : a + rdI cs L[i] ≤ 4611686018427387904 := by omega
      have ham : a ≤ 4611686018427387904 := by omega
      have s1 : sumTold [rdI cs L[i]] = (rdI cs L[i], true) := sumTold1 ⟨hc, hcm⟩
      have s2 : sumTold [a, rdI cs L[i]] = (a + rdI cs L[i], true) := sumTold2 ⟨h0, ham⟩ hc hac
      rw [f44.l0_eq, idx_lt' hx, idx_in hx, Int.toNat_natCast, rd_some (t := tI) hx, wrap_succ (by omega), cT, kT, idxI_in hgd.1, kT, rdI_eq, s1]
      simp only [Bool.not_true, cF]
      rw [s2]
      simp only [cT]
      rw [f44.l0_is k cs L hL hg n (i + 1) (a + rdI cs L[i]) (by omega) (by omega) (by omega) (show a + rdI cs L[i] + pickSum cs (L.drop (i + 1)) ≤ 4611686018427387904 by omega), Int.add_assoc]
    · obtain rfl : i = L.length := by omega
      rw [f44.l0_eq, end_lt, cF, List.drop_length]
      simp [pickSum]

theorem withinL_get : ∀ {cs : List Int} {ls : List Lk}, withinL cs ls = true → ∀ c ∈ cs, 0 ≤ c
  | [], _, _, c, hc => by simp at hc
  | x :: cs, l :: ls, h, c, hc => by
    simp only [withinL, Bool.and_eq_true] at h
    rcases List.mem_cons.1 hc with rfl | hc
    · exact (of_decide_eq_true h.1).1
    · exact withinL_get h.2 c hc
  | _ :: _, [], h, _, _ => by simp [withinL] at h

theorem good_leave {g : Gr} {cs : List Int} (h : capsMay g cs = true) (vs : List Int) : GoodL cs (leaveFrom vs 0 g.2) ∧ pickSum cs (leaveFrom vs 0 g.2) = worthL vs g.2 cs := by
  simp only [capsMay, Bool.and_eq_true] at h
  have hl := withinL_len h.2
  refine ⟨fun l hl' => ?_, ?_⟩
  · obtain ⟨j, rfl, h1, h2⟩ := leave_in vs g.2 0 l hl'
    have hj : j < cs.length := by omega
    have hc : cs[j]? = some cs[j] := List.getElem?_eq_getElem hj
    exact ⟨⟨by omega, by omega⟩, by rw [rdI_some hc]; exact withinL_get h.2 _ (List.getElem_mem hj)⟩
  · have := pick_leave vs cs g.2 0 (by rw [List.drop_zero]; exact hl)
    rwa [List.drop_zero] at this

noncomputable def S44 : Summ := summ [tG, tL, tL] (Int × Int) (fun (d : Gr × (List Int × List Int)) => chk (decide (d.2.2.length < 4611686018427387904)) (some (worth d.1 d.2.1 d.2.2))) resII
noncomputable def S45 : Summ := S44

theorem caps_graph {g : Gr} {cs : List Int} (h : capsMay g cs = true) : graphMay g = true := by
  simp only [capsMay, Bool.and_eq_true] at h
  exact h.1

theorem ok44 : SumOk Try.prog 44 S44 :=
  sum_k hmix f44.E (fn := Try.f44) (code := f44.code) (by kernel_rfl) (by kernel_rfl) (by kernel_rfl) (fun _ => ttOk) f44.sums f44.inl fun (d : Gr × (List Int × List Int)) x hx => by
    obtain ⟨g, cs, vs⟩ := d
    obtain ⟨hb, hx⟩ := chk_some hx
    obtain rfl := Option.some.inj hx
    refine ⟨17, (f44.eq _ g cs vs).trans ?_⟩
    rw [chk_eq hb, bS]
    unfold leaving worth
    cases hc : capsMay g cs with
    | false =>
      cases risingB g.1 none vs && graphMay g with
      | false => rw [cF, Bool.and_false, cF]; rfl
      | true => rw [cT, Bool.and_false, cF, show ((0 : Int) != 0) = false by decide, cF, Bool.not_false, cT]
    | true =>
      simp only [caps_graph hc, Bool.and_true]
      cases risingB g.1 none vs with
      | false => rw [cF, cF]; rfl
      | true =>
        rw [cT, cT, show ((0 : Int) != 0) = false by decide, cF, Bool.not_true, cF]
        have h16 := links_few (caps_graph hc)
        have hlen := leave_len vs g.2 0
        obtain ⟨h1, h2⟩ := good_leave hc vs
        have hw := worth_lo hc vs
        have := f44.l0_is 17 cs (leaveFrom vs 0 g.2) (by omega) h1 17 0 0 (by omega) (by omega) (by omega) (by rw [List.drop_zero, h2]; omega)
        rw [List.drop_zero, h2, Int.zero_add] at this
        exact this

theorem ok45 : SumOk Try.prog 45 S45 :=
  sum_k hmix f45.E (fn := Try.f45) (code := f45.code) (by kernel_rfl) (by kernel_rfl) (by kernel_rfl) (fun _ => ttOk) f45.sums f45.inl fun (d : Gr × (List Int × List Int)) x hx => by
    obtain ⟨g, cs, vs⟩ := d
    obtain ⟨hb, hx⟩ := chk_some hx
    obtain rfl := Option.some.inj hx
    refine ⟨17, (f45.eq _ g cs vs).trans ?_⟩
    rw [chk_eq hb, bS, chk_eq hb, bS]
    unfold leaving worth
    cases hc : capsMay g cs with
    | false => rw [Bool.not_false, cT, Bool.and_false, cF]
    | true =>
      simp only [caps_graph hc, Bool.and_true, Bool.not_true, cF]
      cases risingB g.1 none vs with
      | false => rw [Bool.not_false, cT, cF]
      | true =>
        rw [Bool.not_true, cF, cT, cT]
        have h16 := links_few (caps_graph hc)
        have hlen := leave_len vs g.2 0
        obtain ⟨h1, h2⟩ := good_leave hc vs
        have hw := worth_lo hc vs
        have := f45.l0_is 17 cs (leaveFrom vs 0 g.2) (by omega) h1 17 0 0 (by omega) (by omega) (by omega) (by rw [List.drop_zero, h2]; omega)
        rw [List.drop_zero, h2, Int.zero_add] at this
        exact this

end Go.Proofs.Ytiboikgoaihccaa.R
