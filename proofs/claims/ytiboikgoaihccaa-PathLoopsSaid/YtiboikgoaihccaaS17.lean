/-
The law CutEnds: what it comes to is true.
-/
import Derived.Test.YtiboikgoaihccaaQ17
namespace Go.Proofs.Ytiboikgoaihccaa.R
set_option linter.unusedVariables false

/-- The vertices below n. -/
def upTo (n : Nat) : List Int := (List.range n).map fun (i : Nat) => (i : Int)

theorem upTo_succ (n : Nat) : upTo (n + 1) = upTo n ++ [(n : Int)] := by simp [upTo, List.range_succ]
theorem upTo_len (n : Nat) : (upTo n).length = n := by simp [upTo]
theorem among_upTo {n : Nat} {v : Int} (h : hasV (n : Int) v = true) : amongB (upTo n) v = true := by
  have h := of_decide_eq_true h
  refine among_mem.2 (List.mem_map.2 ⟨v.toNat, List.mem_range.2 (by omega), by omega⟩)

theorem rising_upTo (n : Int) : ∀ (m i : Nat) (p : Option Int), (∀ q, p = some q → q < (i : Int)) → ((i + m : Nat) : Int) ≤ n → risingB n p ((List.range' i m).map fun (j : Nat) => (j : Int)) = true
  | 0, i, p, _, _ => rfl
  | m + 1, i, p, hp, hn => by
    rw [List.range'_succ, List.map_cons]
    simp only [risingB]
    rw [rising_upTo n m (i + 1) (some (i : Int)) (fun q hq => by injection hq with hq; omega) (by omega), Bool.and_true, show hasV n (i : Int) = true from decide_eq_true (by omega), Bool.true_and]
    cases p with
    | none => rfl
    | some q => exact decide_eq_true (hp q rfl)

theorem rising_all {n : Nat} : risingB (n : Int) none (upTo n) = true := by
  have := rising_upTo n n 0 none (fun q hq => by cases hq) (by omega)
  rwa [← List.range_eq_range'] at this

theorem leave_none {vs : List Int} : ∀ {ls : List Lk} {i : Nat}, (∀ l ∈ ls, leavesB vs l = false) → leaveFrom vs i ls = []
  | [], _, _ => rfl
  | l :: ls, i, h => by
    simp only [leaveFrom]
    rw [h l (by simp), cF]
    exact leave_none fun x hx => h x (by simp [hx])

theorem worth_none {vs : List Int} : ∀ {ls : List Lk} {cs : List Int}, (∀ l ∈ ls, leavesB vs l = false) → worthL vs ls cs = 0
  | [], _, _ => by simp [worthL]
  | l :: ls, [], _ => by simp [worthL]
  | l :: ls, c :: cs, h => by
    simp only [worthL]
    rw [h l (by simp), cF, worth_none fun x hx => h x (by simp [hx])]
    rfl

theorem lv_one (a b v : Int) (hne : a ≠ b) : ((v == a || false) && !(v == b || false)) = (a == v) := by
  by_cases h1 : a = v
  · have h2 : v ≠ b := fun hh => hne (h1.trans hh)
    rw [beq_eq_false_iff_ne.2 h2, beq_iff_eq.2 h1, beq_iff_eq.2 h1.symm]
    rfl
  · have h3 : v ≠ a := fun hh => h1 hh.symm
    rw [beq_eq_false_iff_ne.2 h3, beq_eq_false_iff_ne.2 h1]
    rfl

theorem leave_one (n v : Int) : ∀ (ls : List Lk) (i : Nat), ls.all (linkOk n) = true → leaveFrom [v] i ls = outFrom v i ls
  | [], _, _ => rfl
  | l :: ls, i, h => by
    simp only [List.all_cons, Bool.and_eq_true] at h
    simp only [leaveFrom, outFrom]
    rw [leave_one n v ls (i + 1) h.2]
    have hne : l.1 ≠ l.2.1 := by
      have := h.1
      simp only [linkOk, Bool.and_eq_true] at this
      have h2 := this.2.2
      intro hh
      rw [hh] at h2
      simp at h2
    have e : leavesB [v] l = (l.1 == v) := by
      obtain ⟨a, b, c⟩ := l
      exact lv_one (a : Int) (b : Int) v hne
    rw [e]

theorem f10.l0_is (k : Nat) (cs : List Int) (v : Int) (m : Nat) (ls : List Lk) (hm : m ≤ 8) (fin : Option V) (hfin : ∀ n, f10.l0 k (n + 1) cs v m m ls (upTo m) = fin) :
    ∀ (n i : Nat), i ≤ m → m < n + i → f10.l0 k n cs v i m ls (upTo i) = fin
  | 0, i, h, h' => by omega
  | n + 1, i, h, h' => by
    by_cases hlt : i < m
    · rw [f10.l0_eq, show decide ((i : Int) < (m : Int)) = true by simp; omega, cT, ← upTo_succ, chk_eq (by rw [upTo_len]; simp; omega), wrap_succ (by omega)]
      exact f10.l0_is k cs v m ls hm fin hfin n (i + 1) (by omega) (by omega)
    · obtain rfl : i = m := by omega
      exact hfin n

theorem law10_ev (d : Gr × (List Int × Int)) : ∃ E c, TtOk Try.prog E.tt ∧ SumsOk Try.prog E ∧ InlOk Try.prog E ∧ evFn E c 10 Try.f10 (encL [tG, tL, tI] d) = some (.bool true) := by
  obtain ⟨g, cs, v⟩ := d
  refine ⟨f10.E 17, 9, ttOk, f10.sums _, f10.inl _, (f10.eq _ g cs v).trans ?_⟩
  cases hc : capsMay g cs with
  | false => rw [Bool.not_false, cT]
  | true =>
    rw [Bool.not_true, cF]
    by_cases h1 : v < 0
    · rw [decide_eq_true h1, cT]
    · rw [decide_eq_false h1, cF]
      by_cases h2 : v ≥ g.1
      · rw [decide_eq_true h2, cT]
      · rw [decide_eq_false h2, cF]
        have hg := caps_graph hc
        have hg' := hg
        simp only [graphMay, shapeB, Bool.and_eq_true] at hg'
        have hn := of_decide_eq_true hg'.1.1
        have hall : g.2.all (linkOk g.1) = true := hg'.1.2.2
        obtain ⟨m, hm⟩ : ∃ m : Nat, g.1 = (m : Int) := ⟨g.1.toNat, by omega⟩
        obtain ⟨gn, ls⟩ := g
        simp only at hm hn hall h2
        subst hm
        have hv : hasV (m : Int) v = true := decide_eq_true (by omega)
        have hlv : ∀ l ∈ ls, leavesB (upTo m) l = false := fun l hl => by
          have := List.all_eq_true.1 hall l hl
          simp only [linkOk, Bool.and_eq_true] at this
          unfold leavesB
          rw [among_upTo this.2.1]
          simp
        have hl0 : ∀ l ∈ ls, leavesB [] l = false := fun l _ => rfl
        have e0 : leaving ((m : Int), ls) [] = ([], 0) := by
          unfold leaving
          rw [hg, leave_none hl0]
          rfl
        have e1 : leaving ((m : Int), ls) (upTo m) = ([], 0) := by
          unfold leaving
          rw [hg, rising_all, leave_none hlv]
          rfl
        have e2 : leaving ((m : Int), ls) [v] = (outFrom v 0 ls, 0) := by
          unfold leaving
          rw [hg, leave_one m v ls 0 hall]
          simp only [risingB]
          rw [hv]
          rfl
        have e3 : worth ((m : Int), ls) cs (upTo m) = (0, 0) := by
          unfold worth
          rw [hc, rising_all, worth_none hlv]
          rfl
        have e4 : outsOf ((m : Int), ls) v = (outFrom v 0 ls, 0) := by
          unfold outsOf
          rw [hg, hv]
          rfl
        have h16 : (outFrom v 0 ls).length ≤ 16 := by
          rw [← leave_one m v ls 0 hall]
          have := leave_len [v] ls 0
          have := links_few hg
          simp only at this
          omega
        exact f10.l0_is 17 cs v m ls (by omega) (some (.bool true)) (fun n => by
          rw [f10.l0_eq, show decide ((m : Int) < (m : Int)) = false by simp, cF, chk_eq (by rw [upTo_len]; simp; omega), bS, chk_eq (by rw [upTo_len]; simp; omega), bS, e0, e1, e2, e3, e4]
          simp only [List.length_nil]
          rw [show ((0 : Int) == 0) = true by decide, cT, cT, cT, cT, show (((0 : Nat) : Int) == 0) = true by decide, cT, cT, cT, chk_eq (by simp; omega), bS, sameB_iff.2 rfl]) 17 0 (by omega) (by omega)

end Go.Proofs.Ytiboikgoaihccaa.R
