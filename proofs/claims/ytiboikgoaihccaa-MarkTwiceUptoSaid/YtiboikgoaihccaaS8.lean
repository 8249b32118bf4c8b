/-
The law MarkSeen: what it comes to is true.
-/
import Derived.Test.YtiboikgoaihccaaS7
namespace Go.Proofs.Ytiboikgoaihccaa.R
set_option linter.unusedVariables false

/-- Do two spans share a slot? -/
def nearB (x s : Int × Int) : Bool := decide (slotA x ≤ slotB s) && decide (slotA s ≤ slotB x)

theorem tdA {x : Int × Int} (h : spanMay x = true) : Go.IntKind.i64.wrap (x.1.tdiv 256) = (slotA x : Int) := by
  have := span_lo h
  have e : x.1.tdiv 256 = (slotA x : Int) := by unfold slotA; rw [Int.tdiv_eq_ediv_of_nonneg (by omega)]; omega
  rw [e, wrap64]
  have := slots_lo h
  omega

theorem tdB {x : Int × Int} (h : spanMay x = true) : Go.IntKind.i64.wrap ((Go.IntKind.i64.wrap (x.2 - 1)).tdiv 256) = (slotB x : Int) := by
  have := span_lo h
  have e : (x.2 - 1).tdiv 256 = (slotB x : Int) := by unfold slotB; rw [Int.tdiv_eq_ediv_of_nonneg (by omega)]; omega
  rw [wrap64 (n := x.2 - 1) (by omega), e, wrap64]
  have := slots_lo h
  omega

theorem dec_cast (a b : Nat) : decide ((a : Int) ≤ (b : Int)) = decide (a ≤ b) := decide_eq_decide.2 (by omega)

theorem f4.l0_is (k : Nat) (ms : List Int) (ss : List (Int × Int)) (g : Int) (s : Int × Int) (A B : List Int) (hs : ss.length < 4611686018427387904) (hall : ss.all spanMay = true) (hsp : spanMay s = true) :
    ∀ (n i : Nat) (b1 b2 : Bool), i ≤ ss.length → ss.length < n + i →
      f4.l0 k n ms ss g b1 b2 i s.1 s.2 A B = f4.l1 k k ms g (b1 || (ss.drop i).any fun x => meetsB x s) (b2 || (ss.drop i).any fun x => nearB x s) false 0 A B
  | 0, i, _, _, h1, h2 => by omega
  | n + 1, i, b1, b2, h1, h2 => by
    have ih := f4.l0_is k ms ss g s A B hs hall hsp n (i + 1)
    by_cases hlt : i < ss.length
    · have hx := List.getElem?_eq_getElem hlt
      have hm : spanMay ss[i] = true := List.all_eq_true.1 hall _ (List.getElem_mem hlt)
      rw [f4.l0_eq, idx_lt' hx, idx_in hx, rd_some (t := tSp) hx, wrap_succ (by omega), List.drop_eq_getElem_cons hlt, List.any_cons, List.any_cons, tdA hm, tdB hsp, tdA hsp, tdB hm, dec_cast, dec_cast]
      simp only [cT, kT]
      rw [ih true true (by omega) (by omega), ih true _ (by omega) (by omega), ih true false (by omega) (by omega), ih _ true (by omega) (by omega), ih _ _ (by omega) (by omega), ih _ false (by omega) (by omega)]
      unfold nearB
      generalize (List.drop (i + 1) ss).any (fun x => meetsB x s) = r1
      generalize (List.drop (i + 1) ss).any (fun x => (decide (slotA x ≤ slotB s) && decide (slotA s ≤ slotB x))) = r2
      show _ = f4.l1 k k ms g (b1 || (meetsB ss[i] s || r1)) (b2 || ((decide (slotA ss[i] ≤ slotB s) && decide (slotA s ≤ slotB ss[i])) || r2)) false 0 A B
      cases b1 <;> cases b2 <;> cases decide (slotA ss[i] ≤ slotB s) <;> simp only [cT, cF, Bool.true_or, Bool.false_or, Bool.true_and, Bool.false_and]
    · obtain rfl : i = ss.length := by omega
      rw [f4.l0_eq, end_lt, cF, List.drop_length, List.any_nil, List.any_nil, Bool.or_false, Bool.or_false]

theorem f4.l1_is (k : Nat) (ms : List Int) (A B : List Int) (b1 b2 : Bool) (hl : ms.length < 4611686018427387904) (hA : A.length < 4611686018427387904) (hAB : A.length = B.length) :
    ∀ (n i : Nat) (full : Bool), i ≤ ms.length → ms.length < n + i →
      (b1 = true → (full || (ms.drop i).any fun m => m == 1099511627776) = false → A ≠ B) → (b2 = false → A = B) →
      f4.l1 k n ms 0 b1 b2 full i A B = some (.bool true)
  | 0, i, _, h1, h2, _, _ => by omega
  | n + 1, i, full, h1, h2, h3, h4 => by
    by_cases hlt : i < ms.length
    · have hx := List.getElem?_eq_getElem hlt
      rw [f4.l1_eq, idx_lt' hx, idx_in hx, rd_some (t := tI) hx, wrap_succ (by omega), cT, kT]
      rw [List.drop_eq_getElem_cons hlt, List.any_cons] at h3
      cases full with
      | true =>
        rw [cT]
        exact f4.l1_is k ms A B b1 b2 hl hA hAB n (i + 1) true (by omega) (by omega) (fun _ h => by simp at h) h4
      | false =>
        rw [cF]
        exact f4.l1_is k ms A B b1 b2 hl hA hAB n (i + 1) _ (by omega) (by omega) (fun h5 h6 => h3 h5 (by rw [Bool.false_or]; exact h6)) h4
    · obtain rfl : i = ms.length := by omega
      rw [List.drop_length, List.any_nil, Bool.or_false] at h3
      rw [f4.l1_eq, end_lt, cF, chk_eq (by simpa using hA), bS]
      have e : ((A.length : Int) == (B.length : Int)) = true := by simp [hAB]
      rw [e, show ((0 : Int) == 0) = true by decide]
      cases b1 with
      | false =>
        cases b2 with
        | false => rw [h4 rfl, sameB_iff.2 rfl]; rfl
        | true => rfl
      | true =>
        cases full with
        | false =>
          have hne := h3 rfl rfl
          cases b2 with
          | false => exact absurd (h4 rfl) hne
          | true => rw [sameB_ne hne]; rfl
        | true =>
          cases b2 with
          | false => rw [h4 rfl, sameB_iff.2 rfl]; rfl
          | true => rfl

theorem seen_get {ms : List Int} {s : Int × Int} {j : Nat} : (seen ms s)[j]? = if j < slotB s + 1 - slotA s then ms[slotA s + j]? else none := by
  unfold seen
  rw [List.getElem?_take, List.getElem?_drop]

theorem near_not {ss : List (Int × Int)} {s : Int × Int} (hall : ss.all spanMay = true) (hsp : spanMay s = true) (hn : (ss.any fun x => nearB x s) = false) {i : Nat} (h1 : slotA s ≤ i) (h2 : i ≤ slotB s) : hitB ss i = false := by
  rw [Bool.eq_false_iff]
  intro h
  obtain ⟨x, hx, hm⟩ := List.any_eq_true.1 h
  have hsx := List.all_eq_true.1 hall x hx
  have h16 := (slots_lo hsp).2
  rw [meetsB_comm, slot_meets hsx i (by omega)] at hm
  have hm := of_decide_eq_true hm
  have := List.any_eq_false.1 hn x hx
  exact this (by simp [nearB]; omega)

theorem meets_hit {ss : List (Int × Int)} {s : Int × Int} (hall : ss.all spanMay = true) (hsp : spanMay s = true) (hm : (ss.any fun x => meetsB x s) = true) : ∃ i, slotA s ≤ i ∧ i ≤ slotB s ∧ hitB ss i = true := by
  obtain ⟨x, hx, hm⟩ := List.any_eq_true.1 hm
  have hsx := List.all_eq_true.1 hall x hx
  have h1 := span_lo hsp
  have h2 := span_lo hsx
  have h3 := slots_lo hsx
  unfold meetsB at hm
  rw [hsp, hsx, Bool.true_and, Bool.true_and, ← Bool.decide_and] at hm
  have hm := of_decide_eq_true hm
  have ha : (slotA s : Int) = s.1 / 256 := by unfold slotA; rw [Int.tdiv_eq_ediv_of_nonneg (by omega)]; omega
  have hb : (slotB s : Int) = (s.2 - 1) / 256 := by unfold slotB; rw [Int.tdiv_eq_ediv_of_nonneg (by omega)]; omega
  have ha' : (slotA x : Int) = x.1 / 256 := by unfold slotA; rw [Int.tdiv_eq_ediv_of_nonneg (by omega)]; omega
  have hb' : (slotB x : Int) = (x.2 - 1) / 256 := by unfold slotB; rw [Int.tdiv_eq_ediv_of_nonneg (by omega)]; omega
  obtain ⟨h5, h6⟩ := hm
  have hge : slotA x ≤ slotB s ∧ slotA s ≤ slotB x := by omega
  have key : ∀ i, slotA x ≤ i → i ≤ slotB x → i < 16 → hitB ss i = true := by
    intro i h7 h8 h9
    refine List.any_eq_true.2 ⟨x, hx, ?_⟩
    rw [meetsB_comm, slot_meets hsx i h9]
    exact decide_eq_true ⟨h7, h8⟩
  have h4 := slots_lo hsp
  by_cases h : slotA x ≤ slotA s
  · exact ⟨slotA s, Nat.le_refl _, h4.1, key _ h hge.2 (by omega)⟩
  · exact ⟨slotA x, by omega, hge.1, key _ (Nat.le_refl _) h3.1 (by omega)⟩

theorem touch_may {ms : List Int} {ss : List (Int × Int)} (h : marksMay ms = true) : marksMay (touchFrom ss 0 ms) = true := by
  simp only [marksMay, Bool.and_eq_true, decide_eq_true_eq] at h ⊢
  refine ⟨by rw [touchFrom_len]; exact h.1, List.all_eq_true.2 fun x hx => ?_⟩
  obtain ⟨j, hj⟩ := List.getElem?_of_mem hx
  rw [touchFrom_get] at hj
  cases hm : ms[j]? with
  | none => rw [hm] at hj; cases hj
  | some m =>
    rw [hm] at hj
    have h1 := mark_lo (List.all_eq_true.1 h.2 m (List.mem_of_getElem? hm))
    simp only [Option.map_some, Option.some.injEq] at hj
    subst hj
    cases hitB ss (0 + j) <;> simp [markOk] <;> omega

theorem law4_ev (d : List Int × (List (Int × Int) × (Int × Int))) (h2 : d.2.1.length * 16 ≤ reachBytes) :
    ∃ E c, TtOk Try.prog E.tt ∧ SumsOk Try.prog E ∧ InlOk Try.prog E ∧ evFn E c 4 Try.f4 (encL [tL, .list tSp, tSp] d) = some (.bool true) := by
  obtain ⟨ms, ss, s⟩ := d
  simp only [reachBytes] at h2
  refine ⟨f4.E (ss.length + 17), 9, ttOk, f4.sums _, f4.inl _, (f4.eq _ ms ss s).trans ?_⟩
  rw [chk_eq (by simp; omega), bS]
  unfold touch
  cases hms : marksMay ms with
  | false =>
    rw [show (markOf ms s).2 = 2100 by simp [markOf, hms]]
    rfl
  | true =>
    cases hsp : spanMay s with
    | false =>
      rw [show (markOf ms s).2 = 2100 by simp [markOf, hsp]]
      rfl
    | true =>
      have e1 : ∀ ms', marksMay ms' = true → markOf ms' s = (seen ms' s, 0) := fun ms' h => by simp [markOf, h, hsp]
      rw [e1 ms hms, show ((0 : Int) != 0) = false by decide, cF]
      cases hall : ss.all spanMay with
      | false => rfl
      | true =>
        simp only [Bool.and_self, cT]
        rw [show ((0 : Int) != 0) = false by decide, cF, e1 _ (touch_may hms)]
        have hl : ms.length = 16 := by simp only [marksMay, Bool.and_eq_true, decide_eq_true_eq] at hms; exact hms.1
        have hok : ∀ m ∈ ms, 0 ≤ m ∧ m ≤ 1099511627776 := by
          simp only [marksMay, Bool.and_eq_true, decide_eq_true_eq] at hms
          exact fun m hm => mark_lo (List.all_eq_true.1 hms.2 m hm)
        have h4 := slots_lo hsp
        have hlen : (seen ms s).length = (seen (touchFrom ss 0 ms) s).length := by simp [seen, touchFrom_len]
        have := f4.l0_is (ss.length + 17) ms ss 0 s (seen ms s) (seen (touchFrom ss 0 ms) s) (by omega) hall hsp (ss.length + 17) 0 false false (by omega) (by omega)
        refine this.trans ?_
        rw [List.drop_zero, Bool.false_or, Bool.false_or]
        refine f4.l1_is _ ms _ _ _ _ (by omega) (by simp [seen]; omega) hlen _ 0 false (by omega) (by omega) (fun hm hf => ?_) (fun hn => ?_)
        · obtain ⟨i, h5, h6, h7⟩ := meets_hit hall hsp hm
          intro heq
          have h8 := congrArg (fun l => l[i - slotA s]?) heq
          simp only [seen_get] at h8
          rw [if_pos (by omega), if_pos (by omega), show slotA s + (i - slotA s) = i by omega, touchFrom_get, Nat.zero_add, h7] at h8
          have h9 : ms[i]? = some ms[i] := List.getElem?_eq_getElem (by omega)
          rw [h9] at h8
          simp only [Option.map_some, cT, Option.some.injEq] at h8
          have h10 := hok ms[i] (List.getElem_mem _)
          rw [Bool.false_or, List.drop_zero] at hf
          have h11 := List.any_eq_false.1 hf ms[i] (List.getElem_mem _)
          have h12 : ms[i] ≠ 1099511627776 := by simpa using h11
          omega
        · refine List.ext_getElem? fun j => ?_
          rw [seen_get, seen_get]
          by_cases hj : j < slotB s + 1 - slotA s
          · rw [if_pos hj, if_pos hj, touchFrom_get, Nat.zero_add, near_not hall hsp hn (by omega) (by omega)]
            cases ms[slotA s + j]? <;> rfl
          · rw [if_neg hj, if_neg hj]

end Go.Proofs.Ytiboikgoaihccaa.R
