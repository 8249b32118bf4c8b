/-
Bundles: rows of paths, their form, their rates.
-/
import Derived.Test.YtiboikgoaihccaaQ32
namespace Go.Proofs.Ytiboikgoaihccaa.R
set_option linter.unusedVariables false

/-! ### rates -/
noncomputable def S116 : Summ := summ [.list tP] (List Int) (fun (ps : List Pt) => chk (decide (ps.length ≤ 16777216)) (some (ratesOf ps))) (.own tI)

theorem f116.l0_is (k : Nat) (ps : List Pt) (hl : ps.length ≤ 16777216) : ∀ (n i : Nat), i ≤ ps.length → ps.length < n + i → f116.l0 k n ps (ps.length : Int) (i : Int) ((ratesOf ps).take i) = some (.own tI (ratesOf ps))
  | 0, i, h, h' => by omega
  | n + 1, i, h, h' => by
    have hrl : (ratesOf ps).length = ps.length := by simp [ratesOf]
    by_cases hlt : i < ps.length
    · have hx := List.getElem?_eq_getElem hlt
      have e : (ratesOf ps).take i ++ [ps[i].1] = (ratesOf ps).take (i + 1) := by
        rw [List.take_succ_eq_append_getElem (by omega)]
        simp [ratesOf]
      rw [f116.l0_eq, idx_lt' hx, cT, idx_in hx, kT, rd_some (t := tP) hx, wrap_succ (by omega), e, chk_eq (by rw [List.length_take]; exact decide_eq_true (by omega))]
      exact f116.l0_is k ps hl n (i + 1) (by omega) (by omega)
    · obtain rfl : i = ps.length := by omega
      rw [f116.l0_eq, end_lt, cF, List.take_of_length_le (by omega)]

theorem ok116 : SumOk Try.prog 116 S116 :=
  sum_k hmix f116.E (fn := Try.f116) (code := f116.code) (by kernel_rfl) (by kernel_rfl) (by kernel_rfl) (fun _ => ttOk) f116.sums f116.inl fun (ps : List Pt) x hx => by
    obtain ⟨hb, hx⟩ := chk_some hx
    obtain rfl := Option.some.inj hx
    exact ⟨ps.length + 1, (f116.eq _ ps).trans (f116.l0_is _ ps (by simpa using hb) (ps.length + 1) 0 (by omega) (by omega))⟩

/-! ### form -/
noncomputable def S113 : Summ := summ [tG, .list tP] Bool (fun (d : Gr × List Pt) => some (bForm d.1 d.2)) .bool

theorem drop_all {α : Type} {l : List α} {i : Nat} (p : α → Bool) (h : i < l.length) : (l.drop i).all p = (p l[i] && (l.drop (i + 1)).all p) := by
  rw [List.drop_eq_getElem_cons h, List.all_cons]

theorem f113.l1_is (k m0 : Nat) (ps : List Pt) (i : Nat) (ls : List Int) (g0 : Int) (gl : List Lk) (hi : i < ps.length) (hps : ps.length ≤ 16) (hl : ls.length ≤ 64) : ∀ (n j : Nat), j ≤ ls.length → ls.length < n + j →
    f113.l1 k n m0 ps (ps.length : Int) (i : Int) ls (ls.length : Int) (j : Int) g0 gl = bif (ls.drop j).all (lkIn gl) then f113.l0 k m0 ps (ps.length : Int) ((i + 1 : Nat) : Int) g0 gl else some (.bool false)
  | 0, j, h, h' => by omega
  | n + 1, j, h, h' => by
    by_cases hlt : j < ls.length
    · have hx := List.getElem?_eq_getElem hlt
      rw [f113.l1_eq, idx_lt' hx, cT, idx_in hx, kT, rd_some (t := tI) hx, drop_all _ hlt, wrap_succ (i := j) (by omega)]
      cases hc : lkIn gl ls[j] with
      | true =>
        have hc := of_decide_eq_true hc
        rw [show decide (ls[j] ≥ 0) = true from decide_eq_true hc.1, cT, show decide (ls[j] < (↑gl.length : Int)) = true from decide_eq_true hc.2, Bool.not_true, cF, Bool.true_and]
        exact f113.l1_is k m0 ps i ls g0 gl hi hps hl n (j + 1) (by omega) (by omega)
      | false =>
        rw [Bool.false_and, cF]
        rcases lkIn_false hc with h1 | ⟨h1, h2⟩
        · have h1 := of_decide_eq_true h1
          rw [show decide (ls[j] ≥ 0) = false from decide_eq_false (by omega), cF]
        · have h1 := of_decide_eq_false h1
          have h2 := of_decide_eq_true h2
          rw [show decide (ls[j] ≥ 0) = true from decide_eq_true (by omega), cT, show decide (ls[j] < (↑gl.length : Int)) = false from decide_eq_false (by omega), Bool.not_false, cT]
    · obtain rfl : j = ls.length := by omega
      rw [f113.l1_eq, end_lt, cF, List.drop_length, wrap_succ (by omega)]
      rfl

theorem f113.l0_is (k : Nat) (ps : List Pt) (g0 : Int) (gl : List Lk) (hps : ps.length ≤ 16) (hk : 64 < k) : ∀ (n i : Nat), i ≤ ps.length → ps.length < n + i →
    f113.l0 k n ps (ps.length : Int) (i : Int) g0 gl = some (.bool ((ps.drop i).all (ptOk gl)))
  | 0, i, h, h' => by omega
  | n + 1, i, h, h' => by
    by_cases hlt : i < ps.length
    · have hx := List.getElem?_eq_getElem hlt
      rw [f113.l0_eq, idx_lt' hx, cT, idx_in hx, kT, rd_some (t := tP) hx, drop_all _ hlt]
      unfold ptOk
      cases hr : rateB ps[i].1 with
      | false => rw [Bool.not_false, cT, Bool.false_and, Bool.false_and]
      | true =>
        rw [Bool.not_true, cF, Bool.true_and]
        by_cases h64 : ps[i].2.length ≤ 64
        · rw [show decide ((↑(List.length ps[i].2) : Int) > (64 : Int)) = false from decide_eq_false (by omega), cF, decide_eq_true h64, Bool.true_and]
          refine (f113.l1_is k n ps i ps[i].2 g0 gl hlt hps h64 k 0 (by omega) (by omega)).trans ?_
          rw [List.drop_zero]
          cases ps[i].2.all (lkIn gl) with
          | false => rw [cF, Bool.false_and]
          | true =>
            rw [cT, Bool.true_and]
            exact f113.l0_is k ps g0 gl hps hk n (i + 1) (by omega) (by omega)
        · rw [show decide ((↑(List.length ps[i].2) : Int) > (64 : Int)) = true from decide_eq_true (by omega), cT, decide_eq_false h64, Bool.false_and, Bool.false_and]
    · obtain rfl : i = ps.length := by omega
      rw [f113.l0_eq, end_lt, cF, List.drop_length]
      rfl

theorem ok113 : SumOk Try.prog 113 S113 :=
  sum_k hmix f113.E (fn := Try.f113) (code := f113.code) (by kernel_rfl) (by kernel_rfl) (by kernel_rfl) (fun _ => ttOk) f113.sums f113.inl fun (d : Gr × List Pt) x hx => by
    obtain ⟨g, ps⟩ := d
    obtain rfl := Option.some.inj hx
    refine ⟨65, (f113.eq _ g ps).trans ?_⟩
    show _ = some (V.bool (bForm g ps))
    unfold bForm
    cases graphMay g with
    | false => rw [Bool.not_false, cT, Bool.false_and]
    | true =>
      rw [Bool.not_true, cF, Bool.true_and]
      by_cases h : ps.length ≤ 16
      · rw [show decide ((↑ps.length : Int) > (16 : Int)) = false from decide_eq_false (by omega), cF, decide_eq_true h, Bool.true_and]
        exact f113.l0_is 65 ps g.1 g.2 h (by omega) 65 0 (by omega) (by omega)
      · rw [show decide ((↑ps.length : Int) > (16 : Int)) = true from decide_eq_true (by omega), cT, decide_eq_false h, Bool.false_and]

/-! ### SamePaths -/
def smallP (ps : List Pt) : Bool := decide (ps.length < 4611686018427387904) && ps.all fun p => decide (p.2.length < 4611686018427387904)

/-- Rounds enough for all of them. -/
def linksN (ps : List Pt) : Nat := (ps.map fun p => p.2.length).sum
theorem linksN_le {ps : List Pt} {p : Pt} (h : p ∈ ps) : p.2.length ≤ linksN ps := by
  induction ps with
  | nil => cases h
  | cons q ps ih =>
    simp only [linksN, List.map_cons, List.sum_cons]
    rcases List.mem_cons.1 h with rfl | h
    · omega
    · have := ih h
      unfold linksN at this
      omega

noncomputable def S71 : Summ := summ [.list tP, .list tP] Bool (fun (d : List Pt × List Pt) => chk (smallP d.1) (some (sameB d.1 d.2))) .bool

theorem f71.l1_is (k m0 : Nat) (a b : List Pt) (i : Nat) (x y : Pt) (hx : a[i]? = some x) (hy : b[i]? = some y) (hlen : x.2.length = y.2.length) (hs : x.2.length < 4611686018427387904) (ha : a.length < 4611686018427387904) : ∀ (n j : Nat), j ≤ x.2.length → x.2.length < n + j →
    f71.l1 k n m0 a b (i : Int) (j : Int) = bif x.2.drop j == y.2.drop j then f71.l0 k m0 a b ((i + 1 : Nat) : Int) else some (.bool false)
  | 0, j, h, h' => by omega
  | n + 1, j, h, h' => by
    have := idx_lt hx
    rw [f71.l1_eq, idx_in hx, kT, rd_some (t := tP) hx, rd_some (t := tP) hy, kT, idx_in hy, kT]
    by_cases hlt : j < x.2.length
    · have hxj := List.getElem?_eq_getElem hlt
      have hlt2 : j < y.2.length := by omega
      have hyj := List.getElem?_eq_getElem hlt2
      rw [idx_lt' hxj, cT, idx_in hxj, kT, idx_in hyj, kT, rd_some (t := tI) hxj, rd_some (t := tI) hyj, wrap_succ (i := j) (by omega), List.drop_eq_getElem_cons hlt, List.drop_eq_getElem_cons hlt2]
      have e : ((x.2[j] :: x.2.drop (j + 1) : List Int) == y.2[j] :: y.2.drop (j + 1)) = (x.2[j] == y.2[j] && x.2.drop (j + 1) == y.2.drop (j + 1)) := rfl
      rw [e]
      cases hc : x.2[j] == y.2[j] with
      | false => rw [show (x.2[j] != y.2[j]) = true by simp only [bne]; rw [hc]; rfl, cT, Bool.false_and, cF]
      | true =>
        rw [show (x.2[j] != y.2[j]) = false by simp only [bne]; rw [hc]; rfl, cF, Bool.true_and]
        exact f71.l1_is k m0 a b i x y hx hy hlen hs ha n (j + 1) (by omega) (by omega)
    · obtain rfl : j = x.2.length := by omega
      rw [end_lt, cF, wrap_succ (by omega), List.drop_length, hlen, List.drop_length]
      rfl

theorem f71.l0_is (k : Nat) (a b : List Pt) (hl : a.length = b.length) (hs : smallP a = true) (hk : linksN a < k) : ∀ (n i : Nat), i ≤ a.length → a.length < n + i → f71.l0 k n a b (i : Int) = some (.bool (a.drop i == b.drop i))
  | 0, i, h, h' => by omega
  | n + 1, i, h, h' => by
    have hs' := hs
    simp only [smallP, Bool.and_eq_true, decide_eq_true_eq] at hs'
    by_cases hlt : i < a.length
    · have hx := List.getElem?_eq_getElem hlt
      have hlt2 : i < b.length := by omega
      have hy := List.getElem?_eq_getElem hlt2
      have h3 : a[i].2.length < 4611686018427387904 := by simpa using List.all_eq_true.1 hs'.2 a[i] (List.getElem_mem hlt)
      have h4 := linksN_le (List.getElem_mem hlt)
      rw [f71.l0_eq, idx_lt' hx, cT, idx_in hx, kT, idx_in hy, kT, rd_some (t := tP) hx, rd_some (t := tP) hy, kT, kT, List.drop_eq_getElem_cons hlt, List.drop_eq_getElem_cons hlt2]
      have e : ((a[i] :: a.drop (i + 1) : List Pt) == b[i] :: b.drop (i + 1)) = ((a[i].1 == b[i].1 && a[i].2 == b[i].2) && a.drop (i + 1) == b.drop (i + 1)) := rfl
      rw [e]
      cases hc : a[i].1 == b[i].1 with
      | false => rw [show (a[i].1 != b[i].1) = true by simp only [bne]; rw [hc]; rfl, cT, Bool.false_and, Bool.false_and]
      | true =>
        rw [show (a[i].1 != b[i].1) = false by simp only [bne]; rw [hc]; rfl, cF, Bool.true_and]
        by_cases hlen : a[i].2.length = b[i].2.length
        · rw [show ((↑(List.length a[i].2) : Int) != (↑(List.length b[i].2) : Int)) = false by rw [hlen, bne_self_eq_false], cF]
          refine (f71.l1_is k n a b i a[i] b[i] hx hy hlen h3 hs'.1 k 0 (by omega) (by omega)).trans ?_
          rw [List.drop_zero, List.drop_zero]
          cases a[i].2 == b[i].2 with
          | false => rw [cF, Bool.false_and]
          | true =>
            rw [cT, Bool.true_and]
            exact f71.l0_is k a b hl hs hk n (i + 1) (by omega) (by omega)
        · rw [show ((↑(List.length a[i].2) : Int) != (↑(List.length b[i].2) : Int)) = true from bne_iff_ne.2 (by omega), cT]
          rw [show (a[i].2 == b[i].2) = false from beq_eq_false_iff_ne.2 fun hh => hlen (by rw [hh]), Bool.false_and]
    · obtain rfl : i = a.length := by omega
      rw [f71.l0_eq, end_lt, cF, List.drop_length, hl, List.drop_length]
      rfl

theorem ok71 : SumOk Try.prog 71 S71 :=
  sum_k hmix f71.E (fn := Try.f71) (code := f71.code) (by kernel_rfl) (by kernel_rfl) (by kernel_rfl) (fun _ => ttOk) f71.sums f71.inl fun (d : List Pt × List Pt) x hx => by
    obtain ⟨a, b⟩ := d
    obtain ⟨hb, hx⟩ := chk_some hx
    obtain rfl := Option.some.inj hx
    refine ⟨a.length + linksN a + 1, (f71.eq _ a b).trans ?_⟩
    by_cases h : a.length = b.length
    · rw [show ((a.length : Int) != (b.length : Int)) = false by simp [h], cF]
      refine (f71.l0_is _ a b h hb (by omega) _ 0 (by omega) (by omega)).trans ?_
      rw [List.drop_zero, List.drop_zero]
      rfl
    · rw [show ((a.length : Int) != (b.length : Int)) = true from bne_iff_ne.2 (by omega)]
      rw [sameB_ne fun e => h (by rw [show a = b from e]), cT]

noncomputable def S73 : Summ := S110
theorem ok73 : SumOk Try.prog 73 S73 :=
  sum_k hmix f73.E (fn := Try.f73) (code := f73.code) (by kernel_rfl) (by kernel_rfl) (by kernel_rfl) (fun _ => ttOk) f73.sums f73.inl fun d x hx => by
    obtain rfl := Option.some.inj hx
    exact ⟨0, f73.eq 0⟩

end Go.Proofs.Ytiboikgoaihccaa.R
