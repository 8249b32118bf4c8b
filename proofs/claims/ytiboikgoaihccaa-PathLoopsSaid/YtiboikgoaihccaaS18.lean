/-
The law CutPairs: what it comes to is true.
-/
import Derived.Test.YtiboikgoaihccaaS17
namespace Go.Proofs.Ytiboikgoaihccaa.R
set_option linter.unusedVariables false

/-- The vertices below n of either set, and of both. -/
def uniTo (a b : List Int) (n : Nat) : List Int := (upTo n).filter fun (v : Int) => amongB a v || amongB b v
def intTo (a b : List Int) (n : Nat) : List Int := (upTo n).filter fun (v : Int) => amongB a v && amongB b v

theorem uniTo_succ (a b : List Int) (n : Nat) : uniTo a b (n + 1) = bif amongB a n || amongB b n then uniTo a b n ++ [(n : Int)] else uniTo a b n := by
  unfold uniTo
  rw [upTo_succ, List.filter_append]
  cases h : (amongB a n || amongB b n) <;> simp [List.filter, h]
theorem intTo_succ (a b : List Int) (n : Nat) : intTo a b (n + 1) = bif amongB a n && amongB b n then intTo a b n ++ [(n : Int)] else intTo a b n := by
  unfold intTo
  rw [upTo_succ, List.filter_append]
  cases h : (amongB a n && amongB b n) <;> simp [List.filter, h]
theorem uniTo_len (a b : List Int) (n : Nat) : (uniTo a b n).length ≤ n := Nat.le_trans (List.length_filter_le _ _) (Nat.le_of_eq (upTo_len n))
theorem intTo_len (a b : List Int) (n : Nat) : (intTo a b n).length ≤ n := Nat.le_trans (List.length_filter_le _ _) (Nat.le_of_eq (upTo_len n))

theorem rising_less {n : Int} {v : Int} {p : Option Int} (hp : ∀ q, p = some q → q < v) : ∀ {vs : List Int}, risingB n (some v) vs = true → risingB n p vs = true
  | [], _ => rfl
  | w :: vs, h => by
    simp only [risingB, Bool.and_eq_true] at h ⊢
    refine ⟨h.1, ?_, h.2.2⟩
    cases p with
    | none => rfl
    | some q =>
      have h1 := hp q rfl
      have h2 := of_decide_eq_true h.2.1
      exact decide_eq_true (by omega)

theorem rising_filter {n : Int} (f : Int → Bool) : ∀ {vs : List Int} {p : Option Int}, risingB n p vs = true → risingB n p (vs.filter f) = true
  | [], _, _ => rfl
  | v :: vs, p, h => by
    simp only [risingB, Bool.and_eq_true] at h
    have ih := rising_filter f h.2.2
    cases hf : f v with
    | false =>
      rw [List.filter_cons_of_neg (by rw [hf]; exact Bool.false_ne_true)]
      refine rising_less (v := v) (fun q hq => ?_) ih
      subst hq
      exact of_decide_eq_true h.2.1
    | true =>
      rw [List.filter_cons_of_pos hf]
      simp only [risingB, Bool.and_eq_true]
      exact ⟨h.1, h.2.1, ih⟩

theorem among_filter {n : Nat} (f : Int → Bool) {v : Int} (h : hasV (n : Int) v = true) : amongB ((upTo n).filter f) v = f v := by
  cases hf : f v with
  | true => exact among_mem.2 (List.mem_filter.2 ⟨among_mem.1 (among_upTo h), hf⟩)
  | false =>
    cases h2 : amongB ((upTo n).filter f) v with
    | false => rfl
    | true =>
      have := (List.mem_filter.1 (among_mem.1 h2)).2
      rw [hf] at this
      cases this

theorem bit_sub (a1 a2 b1 b2 : Bool) (c : Int) (h : 0 ≤ c) :
    (bif (a1 || b1) && !(a2 || b2) then c else 0) + (bif (a1 && b1) && !(a2 && b2) then c else 0) ≤ (bif a1 && !a2 then c else 0) + (bif b1 && !b2 then c else 0) := by
  cases a1 <;> cases a2 <;> cases b1 <;> cases b2 <;> simp <;> omega

theorem worth_sub (a b : List Int) (n : Nat) : ∀ (ls : List Lk) (cs : List Int), ls.all (linkOk (n : Int)) = true → withinL cs ls = true →
    worthL (uniTo a b n) ls cs + worthL (intTo a b n) ls cs ≤ worthL a ls cs + worthL b ls cs
  | [], cs, _, _ => by simp [worthL]
  | l :: ls, [], _, h => by cases h
  | l :: ls, c :: cs, hl, h => by
    simp only [List.all_cons, Bool.and_eq_true] at hl
    simp only [withinL, Bool.and_eq_true] at h
    have hc := of_decide_eq_true h.1
    have ih := worth_sub a b n ls cs hl.2 h.2
    have hk := hl.1
    simp only [linkOk, Bool.and_eq_true] at hk
    simp only [worthL]
    have e1 : leavesB (uniTo a b n) l = ((amongB a l.1 || amongB b l.1) && !(amongB a l.2.1 || amongB b l.2.1)) := by
      unfold leavesB uniTo
      rw [among_filter _ hk.1, among_filter _ hk.2.1]
    have e2 : leavesB (intTo a b n) l = ((amongB a l.1 && amongB b l.1) && !(amongB a l.2.1 && amongB b l.2.1)) := by
      unfold leavesB intTo
      rw [among_filter _ hk.1, among_filter _ hk.2.1]
    rw [e1, e2]
    have hb := bit_sub (amongB a l.1) (amongB a l.2.1) (amongB b l.1) (amongB b l.2.1) c hc.1
    unfold leavesB
    omega

theorem f9.l0_is (k : Nat) (cs a b : List Int) (p3 p4 : Int) (m : Nat) (ls : List Lk) (hm : m ≤ 8) (ha : a.length < 4611686018427387904) (hb : b.length < 4611686018427387904) (fin : Option V) (hfin : ∀ n, f9.l0 k (n + 1) cs a b p3 p4 m m ls (uniTo a b m) (intTo a b m) = fin) :
    ∀ (n i : Nat), i ≤ m → m < n + i → f9.l0 k n cs a b p3 p4 i m ls (uniTo a b i) (intTo a b i) = fin
  | 0, i, h, h' => by omega
  | n + 1, i, h, h' => by
    by_cases hlt : i < m
    · have ih := f9.l0_is k cs a b p3 p4 m ls hm ha hb fin hfin n (i + 1) (by omega) (by omega)
      have hu := uniTo_len a b i
      have hi := intTo_len a b i
      have cu : (uniTo a b i ++ [(i : Int)]).length * 8 ≤ 140737488355328 := by rw [List.length_append, List.length_singleton]; omega
      have ci : (intTo a b i ++ [(i : Int)]).length * 8 ≤ 140737488355328 := by rw [List.length_append, List.length_singleton]; omega
      rw [uniTo_succ, intTo_succ] at ih
      rw [f9.l0_eq, decide_eq_true (by omega : (i : Int) < (m : Int)), cT, chk_eq (decide_eq_true ha), bS, chk_eq (decide_eq_true hb), bS, wrap_succ (by omega)]
      cases h1 : amongB a i <;> cases h2 : amongB b i <;> rw [h1, h2] at ih <;> simp only [Bool.or_true, Bool.or_false, Bool.and_true, Bool.and_false, cT, cF] at ih ⊢
      · exact ih
      · rw [chk_eq (decide_eq_true cu)]; exact ih
      · rw [chk_eq (decide_eq_true cu)]; exact ih
      · rw [chk_eq (decide_eq_true cu), chk_eq (decide_eq_true ci)]; exact ih
    · obtain rfl : i = m := by omega
      exact hfin n

theorem law9_ev (d : Gr × (List Int × (List Int × List Int))) (h1 : d.2.2.1.length * 8 ≤ reachBytes) (h2 : d.2.2.2.length * 8 ≤ reachBytes) :
    ∃ E c, TtOk Try.prog E.tt ∧ SumsOk Try.prog E ∧ InlOk Try.prog E ∧ evFn E c 9 Try.f9 (encL [tG, tL, tL, tL] d) = some (.bool true) := by
  obtain ⟨g, cs, a, b⟩ := d
  refine ⟨f9.E 17, 9, ttOk, f9.sums _, f9.inl _, (f9.eq _ g cs a b).trans ?_⟩
  simp only [reachBytes] at h1 h2
  have ha : a.length < 4611686018427387904 := by omega
  have hb : b.length < 4611686018427387904 := by omega
  rw [chk_eq (decide_eq_true ha), bS, chk_eq (decide_eq_true hb), bS]
  cases hc : capsMay g cs with
  | false =>
    have e : worth g cs a = (0, 800) := by
      unfold worth
      rw [hc, Bool.and_false, cF]
    rw [e, show (((0 : Int), (800 : Int)).snd != 0) = true by decide, cT]
  | true =>
    cases hra : risingB g.1 none a with
    | false =>
      have e : worth g cs a = (0, 800) := by
        unfold worth
        rw [hra, Bool.false_and, cF]
      rw [e, show (((0 : Int), (800 : Int)).snd != 0) = true by decide, cT]
    | true =>
      have ea : worth g cs a = (worthL a g.2 cs, 0) := by
        unfold worth
        rw [hra, hc, Bool.true_and, cT]
      rw [ea, show ((worthL a g.2 cs, (0 : Int)).snd != 0) = false by simp only [bne_self_eq_false], cF]
      cases hrb : risingB g.1 none b with
      | false =>
        have e : worth g cs b = (0, 800) := by
          unfold worth
          rw [hrb, Bool.false_and, cF]
        rw [e, show (((0 : Int), (800 : Int)).snd != 0) = true by decide, cT]
      | true =>
        have eb : worth g cs b = (worthL b g.2 cs, 0) := by
          unfold worth
          rw [hrb, hc, Bool.true_and, cT]
        rw [eb, show ((worthL b g.2 cs, (0 : Int)).snd != 0) = false by simp only [bne_self_eq_false], cF]
        have hg := caps_graph hc
        have hg' := hg
        simp only [graphMay, shapeB, Bool.and_eq_true] at hg'
        have hn := of_decide_eq_true hg'.1.1
        have hall : g.2.all (linkOk g.1) = true := hg'.1.2.2
        have hc' := hc
        simp only [capsMay, Bool.and_eq_true] at hc'
        have wa := worth_lo hc a
        have wb := worth_lo hc b
        obtain ⟨m, hm⟩ : ∃ m : Nat, g.1 = (m : Int) := ⟨g.1.toNat, by omega⟩
        have wu := worth_lo hc (uniTo a b m)
        have wi := worth_lo hc (intTo a b m)
        obtain ⟨gn, ls⟩ := g
        simp only at hm hn hall wa wb wu wi hc'
        subst hm
        have hsub := worth_sub a b m ls cs hall hc'.2
        have eu : worth ((m : Int), ls) cs (uniTo a b m) = (worthL (uniTo a b m) ls cs, 0) := by
          unfold worth
          rw [hc, show risingB (m : Int) none (uniTo a b m) = true from rising_filter _ rising_all, Bool.true_and, cT]
        have ei : worth ((m : Int), ls) cs (intTo a b m) = (worthL (intTo a b m) ls cs, 0) := by
          unfold worth
          rw [hc, show risingB (m : Int) none (intTo a b m) = true from rising_filter _ rising_all, Bool.true_and, cT]
        have hu := uniTo_len a b m
        have hi := intTo_len a b m
        exact f9.l0_is 17 cs a b (worthL a ls cs) (worthL b ls cs) m ls (by omega) ha hb (some (.bool true)) (fun n => by
          rw [f9.l0_eq, decide_eq_false (by omega : ¬ (m : Int) < (m : Int)), cF, chk_eq (decide_eq_true (by omega : (uniTo a b m).length < 4611686018427387904)), bS, chk_eq (decide_eq_true (by omega : (intTo a b m).length < 4611686018427387904)), bS, eu, ei]
          generalize worthL (uniTo a b m) ls cs = U at *
          generalize worthL (intTo a b m) ls cs = I at *
          generalize worthL a ls cs = A at *
          generalize worthL b ls cs = B at *
          simp only [maxRate] at wa wb wu wi
          rw [show ((0 : Int) == 0) = true by decide, cT, cT, decide_eq_true (by omega : A ≥ 0), cT, decide_eq_true (by omega : B ≥ 0), cT, decide_eq_true (by omega : U ≥ 0), cT, decide_eq_true (by omega : I ≥ 0), cT, decide_eq_true (by omega : U ≤ 4611686018427387904), cT, decide_eq_true (by omega : I ≤ 4611686018427387904), cT, wrap64 (by omega), wrap64 (by omega), decide_eq_true (by omega : U - A ≤ B - I)]
          cases decide (U ≤ A) <;> cases decide (I ≤ B) <;> simp only [cT, cF]) 17 0 (by omega) (by omega)

end Go.Proofs.Ytiboikgoaihccaa.R
