/-
The law PathLoops.
-/
import Derived.Test.YtiboikgoaihccaaS29
namespace Go.Proofs.Ytiboikgoaihccaa.R
set_option linter.unusedVariables false

/-- Where links lead, one by one. -/
def tos (gl : List Lk) (ls : List Int) : List Int := ls.map fun l => (lk gl l).2.1

def chainB (gl : List Lk) : Int → List Int → Bool
  | _, [] => true
  | v, l :: ls => (lk gl l).1 == v && chainB gl (lk gl l).2.1 ls

/-- Where they end. -/
def endV (gl : List Lk) : Int → List Int → Int
  | v, [] => v
  | _, l :: ls => endV gl (lk gl l).2.1 ls

theorem walkL_eq (gl : List Lk) : ∀ (ls : List Int) (v : Int), walkL gl v ls = bif chainB gl v ls then some (tos gl ls) else none
  | [], v => rfl
  | l :: ls, v => by
    simp only [walkL, chainB]
    rw [walkL_eq gl ls]
    cases (lk gl l).1 == v with
    | false => rw [cF, Bool.false_and, cF]
    | true =>
      rw [cT, Bool.true_and]
      cases chainB gl (lk gl l).2.1 ls <;> rfl

theorem chain_append (gl : List Lk) : ∀ (a b : List Int) (v : Int), chainB gl v (a ++ b) = (chainB gl v a && chainB gl (endV gl v a) b)
  | [], b, v => rfl
  | l :: a, b, v => by
    simp only [List.cons_append, chainB, endV]
    rw [chain_append gl a b, Bool.and_assoc]

theorem end_append (gl : List Lk) : ∀ (a b : List Int) (v : Int), endV gl v (a ++ b) = endV gl (endV gl v a) b
  | [], b, v => rfl
  | l :: a, b, v => by
    simp only [List.cons_append, endV]
    exact end_append gl a b _

theorem end_last (gl : List Lk) : ∀ (ls : List Int) (v : Int), (v :: tos gl ls)[ls.length]? = some (endV gl v ls)
  | [], v => rfl
  | l :: ls, v => by
    simp only [List.length_cons, List.getElem?_cons_succ, endV]
    exact end_last gl ls _

theorem tos_take (gl : List Lk) (ls : List Int) (j : Nat) : (tos gl ls).take j = tos gl (ls.take j) := by simp [tos, List.map_take]
theorem tos_append (gl : List Lk) (a b : List Int) : tos gl (a ++ b) = tos gl a ++ tos gl b := by simp [tos]
theorem tos_len (gl : List Lk) (a : List Int) : (tos gl a).length = a.length := by simp [tos]

theorem end_take (gl : List Lk) {ls : List Int} {v x : Int} {j : Nat} (hj : j ≤ ls.length) (h : (v :: tos gl ls)[j]? = some x) : endV gl v (ls.take j) = x := by
  have h1 := end_last gl (ls.take j) v
  have h2 : (ls.take j).length = j := by rw [List.length_take]; omega
  rw [h2, ← tos_take] at h1
  have h3 : (v :: (tos gl ls).take j)[j]? = (v :: tos gl ls)[j]? := by
    have : v :: (tos gl ls).take j = (v :: tos gl ls).take (j + 1) := rfl
    rw [this, List.getElem?_take_of_lt (by omega)]
  rw [h3, h] at h1
  exact (Option.some.inj h1).symm

theorem firstI_none (v : Int) : ∀ (xs : List Int) (i : Nat), firstI v i xs = none → v ∉ xs
  | [], i, h => by simp
  | x :: xs, i, h => by
    simp only [firstI] at h
    cases hx : v == x with
    | true => rw [hx, cT] at h; cases h
    | false =>
      rw [hx, cF] at h
      rw [List.mem_cons, not_or]
      exact ⟨by simpa using hx, firstI_none v xs (i + 1) h⟩

theorem firstI_out (v : Int) : ∀ (xs : List Int) (i : Nat), v ∉ xs → firstI v i xs = none
  | [], i, h => rfl
  | x :: xs, i, h => by
    rw [List.mem_cons, not_or] at h
    simp only [firstI]
    rw [beq_eq_false_iff_ne.2 h.1, cF]
    exact firstI_out v xs (i + 1) h.2

theorem firstI_at (v : Int) : ∀ (xs : List Int) (i : Nat) {j : Nat}, firstI v i xs = some j → xs[j - i]? = some v
  | [], i, j, h => by cases h
  | x :: xs, i, j, h => by
    simp only [firstI] at h
    cases hx : v == x with
    | true =>
      rw [hx, cT] at h
      injection h with h
      subst h
      rw [Nat.sub_self]
      exact congrArg some (by simpa using hx : v = x).symm
    | false =>
      rw [hx, cF] at h
      have h1 := firstI_lt v xs (i + 1) h
      have h2 := firstI_at v xs (i + 1) h
      rw [show j - i = (j - (i + 1)) + 1 by omega, List.getElem?_cons_succ]
      exact h2

theorem simpL_inv (gl : List Lk) (src : Int) : ∀ (rest kept : List Int), chainB gl src kept = true → chainB gl (endV gl src kept) rest = true → (src :: tos gl kept).Nodup →
    ∃ k', simpL gl rest (kept, src :: tos gl kept) = (k', src :: tos gl k') ∧ chainB gl src k' = true ∧ endV gl src k' = endV gl (endV gl src kept) rest ∧ (src :: tos gl k').Nodup ∧ (∀ x ∈ k', x ∈ kept ∨ x ∈ rest) ∧ k'.length ≤ kept.length + rest.length
  | [], kept, h1, h2, h3 => ⟨kept, rfl, h1, rfl, h3, fun x hx => .inl hx, by simp⟩
  | l :: rest, kept, h1, h2, h3 => by
    simp only [chainB, Bool.and_eq_true] at h2
    simp only [simpL, endV, stepS]
    cases hf : firstI (lk gl l).2.1 0 (src :: tos gl kept) with
    | none =>
      have hn := firstI_none _ _ _ hf
      have e1 : src :: tos gl kept ++ [(lk gl l).2.1] = src :: tos gl (kept ++ [l]) := by rw [tos_append]; rfl
      simp only [cutS]
      rw [e1]
      have c1 : chainB gl src (kept ++ [l]) = true := by
        rw [chain_append, h1, Bool.true_and]
        simp only [chainB, Bool.and_true]
        exact h2.1
      have c2 : endV gl src (kept ++ [l]) = (lk gl l).2.1 := by rw [end_append]; rfl
      have c3 : (src :: tos gl (kept ++ [l])).Nodup := by
        rw [← e1, List.nodup_append]
        refine ⟨h3, by simp, fun a ha b hb => ?_⟩
        rw [List.mem_singleton] at hb
        subst hb
        intro he
        subst he
        exact hn ha
      obtain ⟨k', r1, r2, r3, r4, r5, r6⟩ := simpL_inv gl src rest (kept ++ [l]) c1 (by rw [c2]; exact h2.2) c3
      refine ⟨k', r1, r2, by rw [r3, c2], r4, fun x hx => ?_, by rw [List.length_append, List.length_singleton] at r6; rw [List.length_cons]; omega⟩
      rcases r5 x hx with h | h
      · rcases List.mem_append.1 h with h | h
        · exact .inl h
        · exact .inr (by rw [List.mem_singleton] at h; subst h; simp)
      · exact .inr (List.mem_cons_of_mem _ h)
    | some j =>
      have hj := firstI_lt _ _ _ hf
      have hat := firstI_at _ _ _ hf
      rw [Nat.sub_zero] at hat
      have hj2 : j ≤ kept.length := by rw [List.length_cons, tos_len] at hj; omega
      have e1 : (src :: tos gl kept).take (j + 1) = src :: tos gl (kept.take j) := by rw [List.take_succ_cons, tos_take]
      simp only [cutS]
      rw [e1]
      have hsplit : kept = kept.take j ++ kept.drop j := (List.take_append_drop j kept).symm
      have c1 : chainB gl src (kept.take j) = true := by
        rw [hsplit, chain_append, Bool.and_eq_true] at h1
        exact h1.1
      have c2 : endV gl src (kept.take j) = (lk gl l).2.1 := end_take gl hj2 hat
      have c3 : (src :: tos gl (kept.take j)).Nodup := by
        rw [← e1]
        exact h3.sublist (List.take_sublist _ _)
      obtain ⟨k', r1, r2, r3, r4, r5, r6⟩ := simpL_inv gl src rest (kept.take j) c1 (by rw [c2]; exact h2.2) c3
      refine ⟨k', r1, r2, by rw [r3, c2], r4, fun x hx => ?_, by rw [List.length_take] at r6; rw [List.length_cons]; omega⟩
      rcases r5 x hx with h | h
      · exact .inl (List.mem_of_mem_take h)
      · exact .inr (List.mem_cons_of_mem _ h)

theorem simpL_id (gl : List Lk) (src : Int) : ∀ (rest kept : List Int), (src :: tos gl (kept ++ rest)).Nodup → simpL gl rest (kept, src :: tos gl kept) = (kept ++ rest, src :: tos gl (kept ++ rest))
  | [], kept, h => by rw [List.append_nil]; rfl
  | l :: rest, kept, h => by
    simp only [simpL, stepS]
    have hn : (lk gl l).2.1 ∉ src :: tos gl kept := by
      have e : src :: tos gl (kept ++ l :: rest) = (src :: tos gl kept) ++ ((lk gl l).2.1 :: tos gl rest) := by rw [tos_append]; rfl
      rw [e, List.nodup_append] at h
      intro hm
      exact h.2.2 _ hm _ (by simp) rfl
    rw [firstI_out _ _ _ hn]
    simp only [cutS]
    have e1 : src :: tos gl kept ++ [(lk gl l).2.1] = src :: tos gl (kept ++ [l]) := by rw [tos_append]; rfl
    have e2 : kept ++ l :: rest = (kept ++ [l]) ++ rest := by simp
    rw [e1, e2]
    rw [e2] at h
    exact simpL_id gl src rest (kept ++ [l]) h

/-- A walk that may be. -/
theorem walkOf_chain {g : Gr} {src : Int} {ls : List Int} (h1 : walkForm g src ls = true) (h2 : chainB g.2 src ls = true) : walkOf g src ls = (src :: tos g.2 ls, 0) := by
  unfold walkOf
  rw [h1, cT, walkL_eq, h2, cT]

theorem walkOf_chain' {g : Gr} {src : Int} {ls : List Int} (h : (walkOf g src ls).2 = 0) : walkForm g src ls = true ∧ chainB g.2 src ls = true := by
  obtain ⟨us, h1, h2, h3⟩ := walkOf_ok h
  refine ⟨h1, ?_⟩
  rw [walkL_eq] at h2
  cases hc : chainB g.2 src ls with
  | true => rfl
  | false => rw [hc, cF] at h2; cases h2

theorem simpleOf_all {g : Gr} {src : Int} {ls : List Int} (h : (walkOf g src ls).2 = 0) :
    ∃ k', simpleOf g src ls = (k', 0) ∧ walkOf g src k' = (src :: tos g.2 k', 0) ∧ simpleOf g src k' = (k', 0) ∧ endV g.2 src k' = endV g.2 src ls ∧ (src :: tos g.2 k').Nodup ∧ k'.length ≤ 64 := by
  obtain ⟨h1, h2⟩ := walkOf_chain' h
  obtain ⟨f1, f2, f3, f4⟩ := walkForm_all h1
  obtain ⟨k', r1, r2, r3, r4, r5, r6⟩ := simpL_inv g.2 src ls [] rfl h2 (by simp [tos])
  have r6 : k'.length ≤ ls.length := by simpa using r6
  have hform : walkForm g src k' = true := by
    unfold walkForm
    rw [f1, f2, Bool.true_and, Bool.true_and, Bool.and_eq_true]
    refine ⟨decide_eq_true (by omega), List.all_eq_true.2 fun x hx => ?_⟩
    rcases r5 x hx with h | h
    · simp at h
    · exact List.all_eq_true.1 f4 x h
  have hw := walkOf_chain hform r2
  refine ⟨k', ?_, hw, ?_, r3, r4, by omega⟩
  · unfold simpleOf
    rw [h, show ((0 : Int) != 0) = false by decide, cF]
    have e : ([src] : List Int) = src :: tos g.2 [] := rfl
    rw [e, r1]
  · unfold simpleOf
    rw [hw]
    simp only []
    rw [show ((0 : Int) != 0) = false by decide, cF]
    have := simpL_id g.2 src k' [] (by simpa using r4)
    simp only [List.nil_append] at this
    have e : ([src] : List Int) = src :: tos g.2 [] := rfl
    rw [e, this]

theorem f16.l1_is (k m0 : Nat) (xs : List Int) (i : Nat) (v : Int) (hi : xs[i]? = some v) (hb : xs.length < 4611686018427387904) (n : Nat) (hn : i < n) :
    f16.l1 k n m0 (i : Int) 0 xs = bif (xs.take i).any (fun y => v == y) then some (.bool false) else f16.l0 k m0 ((i + 1 : Nat) : Int) xs := by
  have hlt := (List.getElem?_eq_some_iff.1 hi).1
  have hl : (xs.take i).length = i := by rw [List.length_take]; omega
  exact loop_any0 (fun n j => f16.l1 k n m0 (i : Int) (j : Nat) xs) (xs.take i) (fun y => v == y) (some (.bool false)) (f16.l0 k m0 ((i + 1 : Nat) : Int) xs) (fun n j y hy => by
    have hj := (List.getElem?_eq_some_iff.1 hy).1
    rw [hl] at hj
    have hy' : xs[j]? = some y := by rw [List.getElem?_take_of_lt hj] at hy; exact hy
    rw [f16.l1_eq, show decide ((j : Int) < (i : Int)) = true from decide_eq_true (by omega), cT, idx_in hi, kT, idx_in hy', kT, rd_nat (t := tI) hi, rd_nat (t := tI) hy', wrap_succ (by omega)]) (fun n => by rw [hl, f16.l1_eq, show decide ((i : Int) < (i : Int)) = false by simp, cF, wrap_succ (by omega)]) (n := n) (by omega)

theorem f16.l0_is (k : Nat) (xs : List Int) (hb : xs.length < 4611686018427387904) (hk : xs.length < k) (hd : xs.Nodup) : ∀ (n i : Nat), i ≤ xs.length → xs.length < n + i → f16.l0 k n (i : Int) xs = some (.bool true)
  | 0, i, h, h' => by omega
  | n + 1, i, h, h' => by
    by_cases hlt : i < xs.length
    · have hx := List.getElem?_eq_getElem hlt
      rw [f16.l0_eq, idx_lt' hx, cT, f16.l1_is k n xs i xs[i] hx hb k (by omega)]
      have hc : ((xs.take i).any fun y => xs[i] == y) = false := by
        rw [List.any_eq_false]
        intro y hy he
        obtain ⟨j, hj, he2⟩ := List.getElem_of_mem hy
        have hj2 : j < i := by rw [List.length_take] at hj; omega
        have he3 : xs[j]? = some xs[i] := by
          rw [List.getElem_take] at he2
          rw [List.getElem?_eq_getElem (by omega), he2]
          exact congrArg some (by simpa using he : xs[i] = y).symm
        exact nodup_hit hj2 he3 hx hd
      rw [hc, cF]
      exact f16.l0_is k xs hb hk hd n (i + 1) (by omega) (by omega)
    · obtain rfl : i = xs.length := by omega
      rw [f16.l0_eq, end_lt, cF]

theorem law16_ev (d : Gr × (Int × List Int)) :
    ∃ E c, TtOk Try.prog E.tt ∧ SumsOk Try.prog E ∧ InlOk Try.prog E ∧ evFn E c 16 Try.f16 (encL [tG, tI, tL] d) = some (.bool true) := by
  obtain ⟨g, src, ls⟩ := d
  refine ⟨f16.E 67, 9, ttOk, f16.sums _, f16.inl _, (f16.eq _ g src ls).trans ?_⟩
  cases hw : (walkOf g src ls).2 != 0 with
  | true => rw [cT]
  | false =>
    have hw0 : (walkOf g src ls).2 = 0 := by simpa using hw
    obtain ⟨h1, h2⟩ := walkOf_chain' hw0
    obtain ⟨_, _, f3, _⟩ := walkForm_all h1
    obtain ⟨k', r1, r2, r3, r4, r5, r6⟩ := simpleOf_all hw0
    have l1 : (src :: tos g.2 k').length = k'.length + 1 := by rw [List.length_cons, tos_len]
    have l2 : (src :: tos g.2 ls).length = ls.length + 1 := by rw [List.length_cons, tos_len]
    have w1 : Go.IntKind.i64.wrap (((src :: tos g.2 k').length : Int) - 1) = (k'.length : Int) := by rw [l1, wrap64 (by omega)]; omega
    have w2 : Go.IntKind.i64.wrap (((src :: tos g.2 ls).length : Int) - 1) = (ls.length : Int) := by rw [l2, wrap64 (by omega)]; omega
    rw [cF, r1]
    simp only []
    rw [r2, r3, walkOf_chain h1 h2]
    simp only []
    rw [show ((0 : Int) != 0) = false by decide, cF, cF, cF]
    rw [show (((src :: tos g.2 ls).length : Int) == 0) = false from beq_eq_false_iff_ne.2 (by omega), cF, show (((src :: tos g.2 k').length : Int) == 0) = false from beq_eq_false_iff_ne.2 (by omega), cF]
    rw [w1, w2, chk_eq (decide_eq_true ⟨by omega, by omega⟩), chk_eq (decide_eq_true ⟨by omega, by omega⟩)]
    rw [rd_nat (t := tI) (end_last g.2 k' src), rd_nat (t := tI) (end_last g.2 ls src), r4, bne_self_eq_false, cF, chk_eq (decide_eq_true (by omega)), bS, sameB_iff.2 rfl, Bool.not_true, cF]
    exact f16.l0_is 67 (src :: tos g.2 k') (by omega) (by omega) r5 67 0 (by omega) (by omega)

end Go.Proofs.Ytiboikgoaihccaa.R
