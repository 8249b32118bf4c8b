/-
package mark and its reference: Touch, Of.
-/
import Derived.Test.YtiboikgoaihccaaQ4
namespace Go.Proofs.Ytiboikgoaihccaa.R
set_option linter.unusedVariables false

/-- Is a slot touched? -/
def hitB (ss : List (Int × Int)) (i : Nat) : Bool := ss.any fun s => meetsB s (slotOf i)

def touchFrom (ss : List (Int × Int)) : Nat → List Int → List Int
  | _, [] => []
  | i, m :: ms => (bif hitB ss i then min (m + 1) 1099511627776 else m) :: touchFrom ss (i + 1) ms

def touch (ms : List Int) (ss : List (Int × Int)) : List Int × Int :=
  bif marksMay ms && ss.all spanMay then (touchFrom ss 0 ms, 0) else ([], 2100)

@[reducible] def resLE (x : List Int × Int) : V := .tup [.own tI x.1, .int .i64 x.2]

theorem slot_some {i : Nat} (h : i < 16) : chk (decide (0 ≤ (i : Int) ∧ (i : Int) < 16)) (some (slotOf i)) = some (slotOf i) := chk_eq (by simp; omega)

theorem set_mid {α : Type} (A : List α) (m v : α) (B : List α) : (A ++ m :: B).set A.length v = A ++ v :: B := by simp

theorem rd_mid (A : List Int) (m : Int) (B : List Int) : rd (Ty.int Go.IntKind.i64) (A ++ m :: B) (A.length : Int) = m := rd_some (t := tI) (by simp)

theorem mid_in (A : List Int) (m : Int) (B : List Int) : decide (0 ≤ (A.length : Int) ∧ (A.length : Int) < ((A ++ m :: B).length : Int)) = true := by simp; omega

theorem mark_lo {m : Int} (h : markOk m = true) : 0 ≤ m ∧ m ≤ 1099511627776 := by simpa [markOk] using h

theorem f26.l1_is (k : Nat) (ss : List (Int × Int)) (hk : ss.length < k) (hs : ss.length < 4611686018427387904) : ∀ (B A : List Int) (n : Nat), B.length < n → A.length + B.length = 16 → B.all markOk = true →
    f26.l1 k n ss ((16 : Nat) : Int) (A.length : Int) (A ++ B) = some (resLE (A ++ touchFrom ss A.length B, 0))
  | _, _, 0, h, _, _ => by omega
  | [], A, n + 1, _, hl, _ => by
    have hl : A.length = 16 := by simpa using hl
    rw [f26.l1_eq, hl]
    simp [touchFrom]
  | m :: B, A, n + 1, h, hl, hm => by
    simp only [List.length_cons] at h hl
    simp only [List.all_cons, Bool.and_eq_true] at hm
    have hm1 := mark_lo hm.1
    rw [f26.l1_eq, show decide ((A.length : Int) < ((16 : Nat) : Int)) = true by simp; omega, cT]
    have := loop_any0 (fun q j => f26.l2 k q n ss (ss.length : Int) (j : Nat) ((16 : Nat) : Int) (A.length : Int) (A ++ m :: B)) ss (fun s => meetsB s (slotOf A.length))
      (f26.l1 k n ss ((16 : Nat) : Int) ((A.length + 1 : Nat) : Int) (A ++ min (m + 1) 1099511627776 :: B)) (f26.l1 k n ss ((16 : Nat) : Int) ((A.length + 1 : Nat) : Int) (A ++ m :: B)) (fun q j s hs' => by
        have := idx_lt hs'
        rw [f26.l2_eq, idx_lt' hs', idx_in hs', slot_some (by omega), rd_some (t := tSp) hs', mid_in, Int.toNat_natCast, rd_mid, set_mid, min2, wrap_succ (i := A.length) (by omega), wrap_succ (i := j) (by omega), wrap64 (n := m + 1) (by omega), show decide ((j : Int) ≥ 0) = true by simp]
        simp only [cT, kT, bS]) (fun q => by
        rw [f26.l2_eq, end_lt, wrap_succ (i := A.length) (by omega), cF]) (n := k) hk
    refine this.trans ?_
    have ih1 := f26.l1_is k ss hk hs B (A ++ [min (m + 1) 1099511627776]) n (by omega) (by simp; omega) hm.2
    have ih2 := f26.l1_is k ss hk hs B (A ++ [m]) n (by omega) (by simp; omega) hm.2
    simp only [List.length_append, List.length_cons, List.length_nil, Nat.zero_add, List.append_assoc, List.singleton_append] at ih1 ih2
    rw [ih1, ih2]
    simp only [touchFrom]
    change (bif hitB ss A.length then _ else _) = _
    cases hitB ss A.length with
    | true => simp only [cT]
    | false => simp only [cF]

theorem f26.l0_is (k : Nat) (ms : List Int) (ss : List (Int × Int)) (hs : ss.length < 4611686018427387904) (hk : ss.length < k) :
    f26.l0 k k ss (ss.length : Int) 0 ms = bif ss.any (fun s => !spanMay s) then some (resLE ([], 2100)) else (chk (decide (ms.length * 8 ≤ 140737488355328)) (some ms)).bind (fun y => f26.l1 k k ss (y.length : Int) 0 y) := by
  exact loop_any0 (fun n i => f26.l0 k n ss (ss.length : Int) (i : Nat) ms) ss (fun s => !spanMay s) _ _ (fun n i x hx => by
    have := idx_lt hx
    rw [f26.l0_eq, idx_lt' hx, idx_in hx, rd_some (t := tSp) hx, wrap_succ (by omega), show decide ((i : Int) ≥ 0) = true by simp]
    simp only [cT, kT]) (fun n => by rw [f26.l0_eq, end_lt, cF]) hk

noncomputable def S26 : Summ := summ [tL, .list tSp] (List Int × Int) (fun (d : List Int × List (Int × Int)) => chk (decide (d.2.length < 4611686018427387904)) (some (touch d.1 d.2))) resLE
theorem ok26 : SumOk Try.prog 26 S26 :=
  sum_k hmix f26.E (fn := Try.f26) (code := f26.code) (by kernel_rfl) (by kernel_rfl) (by kernel_rfl) (fun _ => ttOk) f26.sums f26.inl fun (d : List Int × List (Int × Int)) x hx => by
    obtain ⟨ms, ss⟩ := d
    obtain ⟨hb, hx⟩ := chk_some hx
    obtain rfl := Option.some.inj hx
    have hb : ss.length < 4611686018427387904 := by simpa using hb
    refine ⟨ss.length + 17, (f26.eq _ ms ss).trans ?_⟩
    rw [f26.l0_is _ _ _ hb (by omega)]
    unfold touch
    cases h1 : marksMay ms with
    | false => simp only [Bool.not_false, cT, Bool.false_and, cF]
    | true =>
      rw [← List.not_all_eq_any_not]
      cases h2 : ss.all spanMay with
      | false => simp only [Bool.not_true, Bool.not_false, cT, Bool.and_false, cF]
      | true =>
        simp only [marksMay, Bool.and_eq_true, decide_eq_true_eq] at h1
        have := f26.l1_is (ss.length + 17) ss (by omega) hb ms [] (ss.length + 17) (by omega) (by simpa using h1.1) h1.2
        rw [chk_eq (by simp; omega)]
        simp only [Bool.not_true, cF, bS, Bool.and_self, cT, h1.1]
        exact this

theorem meetsB_comm (a b : Int × Int) : meetsB a b = meetsB b a := by
  unfold meetsB
  cases spanMay a <;> cases spanMay b <;> cases decide (a.1 < b.2) <;> cases decide (b.1 < a.2) <;> rfl

theorem f27.l2_is (k m0 : Nat) (ss : List (Int × Int)) (hs : ss.length < 4611686018427387904) (i : Nat) (hi : i < 16) (row : List Int) (yes no : Option V)
    (hy : ∀ n, f27.l2 k (n + 1) m0 ss i true ss.length row = yes) (hn : ∀ n, f27.l2 k (n + 1) m0 ss i false ss.length row = no) :
    ∀ (n j : Nat) (b : Bool), j ≤ ss.length → ss.length < n + j → f27.l2 k n m0 ss i b j row = bif b || (ss.drop j).any (fun s => meetsB s (slotOf i)) then yes else no
  | 0, j, _, h1, h2 => by omega
  | n + 1, j, b, h1, h2 => by
    by_cases hlt : j < ss.length
    · have hx := List.getElem?_eq_getElem hlt
      rw [f27.l2_eq, idx_lt' hx, idx_in hx, slot_some hi, rd_some (t := tSp) hx, wrap_succ (by omega), List.drop_eq_getElem_cons hlt, List.any_cons, f27.l2_is k m0 ss hs i hi row yes no hy hn n (j + 1) true (by omega) (by omega)]
      simp only [cT, kT, bS]
      rw [f27.l2_is k m0 ss hs i hi row yes no hy hn n (j + 1) _ (by omega) (by omega), meetsB_comm]
      cases b with
      | true => simp only [cT, Bool.true_or]
      | false => simp only [cF, Bool.false_or]
    · obtain rfl : j = ss.length := by omega
      rw [List.drop_length]
      cases b with
      | true => rw [hy, Bool.true_or, cT]
      | false => rw [hn, Bool.false_or, List.any_nil, cF]

theorem f27.l1_is (k : Nat) (ss : List (Int × Int)) (hk : ss.length < k) (hs : ss.length < 4611686018427387904) : ∀ (B A : List Int) (n : Nat), B.length < n → A.length + B.length = 16 → B.all markOk = true →
    f27.l1 k n ss (A.length : Int) (A ++ B) = some (resLE (A ++ touchFrom ss A.length B, 0))
  | _, _, 0, h, _, _ => by omega
  | [], A, n + 1, _, hl, _ => by
    have hl : A.length = 16 := by simpa using hl
    rw [f27.l1_eq, hl]
    simp [touchFrom]
  | m :: B, A, n + 1, h, hl, hm => by
    simp only [List.length_cons] at h hl
    simp only [List.all_cons, Bool.and_eq_true] at hm
    have hm1 := mark_lo hm.1
    rw [f27.l1_eq, show decide ((A.length : Int) < 16) = true by simp; omega, cT]
    have := f27.l2_is k n ss hs A.length (by omega) (A ++ m :: B) (f27.l1 k n ss ((A.length + 1 : Nat) : Int) (A ++ min (m + 1) 1099511627776 :: B)) (f27.l1 k n ss ((A.length + 1 : Nat) : Int) (A ++ m :: B)) (fun q => by
        rw [f27.l2_eq, end_lt, mid_in, Int.toNat_natCast, rd_mid, set_mid, wrap_succ (i := A.length) (by omega), wrap64 (n := m + 1) (by omega)]
        by_cases hlt : m < 1099511627776
        · rw [show min (m + 1) 1099511627776 = m + 1 by omega]
          simp [hlt]
        · rw [show min (m + 1) 1099511627776 = m by omega]
          simp [hlt]) (fun q => by
        rw [f27.l2_eq, end_lt, wrap_succ (i := A.length) (by omega), cF, cF]) k 0 false (by omega) (by omega)
    refine this.trans ?_
    have ih1 := f27.l1_is k ss hk hs B (A ++ [min (m + 1) 1099511627776]) n (by omega) (by simp; omega) hm.2
    have ih2 := f27.l1_is k ss hk hs B (A ++ [m]) n (by omega) (by simp; omega) hm.2
    simp only [List.length_append, List.length_cons, List.length_nil, Nat.zero_add, List.append_assoc, List.singleton_append] at ih1 ih2
    rw [ih1, ih2]
    simp only [touchFrom]
    change (bif hitB ss A.length then _ else _) = _
    cases hitB ss A.length with
    | true => simp only [cT]
    | false => simp only [cF]

theorem f27.l0_is (k : Nat) (ms : List Int) (ss : List (Int × Int)) (hs : ss.length < 4611686018427387904) (hk : ss.length < k) :
    f27.l0 k k ss 0 ms = bif ss.any (fun s => !spanMay s) then some (resLE ([], 2100)) else f27.l1 k k ss 0 ms := by
  exact loop_any0 (fun n i => f27.l0 k n ss (i : Nat) ms) ss (fun s => !spanMay s) _ _ (fun n i x hx => by
    have := idx_lt hx
    rw [f27.l0_eq, idx_lt' hx, idx_in hx, rd_some (t := tSp) hx, wrap_succ (by omega)]
    simp only [cT, kT]) (fun n => by rw [f27.l0_eq, end_lt, cF]) hk

noncomputable def S27 : Summ := S26
theorem ok27 : SumOk Try.prog 27 S27 :=
  sum_k hmix f27.E (fn := Try.f27) (code := f27.code) (by kernel_rfl) (by kernel_rfl) (by kernel_rfl) (fun _ => ttOk) f27.sums f27.inl fun (d : List Int × List (Int × Int)) x hx => by
    obtain ⟨ms, ss⟩ := d
    obtain ⟨hb, hx⟩ := chk_some hx
    obtain rfl := Option.some.inj hx
    have hb : ss.length < 4611686018427387904 := by simpa using hb
    refine ⟨ss.length + 17, (f27.eq _ ms ss).trans ?_⟩
    rw [List.nil_append, f27.l0_is _ _ _ hb (by omega)]
    unfold touch
    cases h1 : marksMay ms with
    | false => simp only [Bool.not_false, cT, Bool.false_and, cF]
    | true =>
      simp only [marksMay, Bool.and_eq_true, decide_eq_true_eq] at h1
      rw [← List.not_all_eq_any_not, chk_eq (by simp; omega)]
      cases h2 : ss.all spanMay with
      | false => simp only [Bool.not_true, Bool.not_false, cT, Bool.and_false, cF]
      | true =>
        have := f27.l1_is (ss.length + 17) ss (by omega) hb ms [] (ss.length + 17) (by omega) (by simpa using h1.1) h1.2
        simp only [Bool.not_true, cF, Bool.and_self, cT]
        exact this

/-- The marks of the slots from a to b. -/
def collect (a b : Nat) : Nat → List Int → List Int
  | _, [] => []
  | i, m :: ms => bif decide (a ≤ i ∧ i ≤ b) then m :: collect a b (i + 1) ms else collect a b (i + 1) ms

theorem collect_eq (a b : Nat) (hab : a ≤ b) : ∀ (ms : List Int) (i : Nat), collect a b i ms = (ms.drop (a - i)).take (b + 1 - max a i)
  | [], i => by simp [collect]
  | m :: ms, i => by
    simp only [collect]
    rw [collect_eq a b hab ms (i + 1)]
    by_cases h1 : i < a
    · rw [show decide (a ≤ i ∧ i ≤ b) = false by simp; omega, cF, show a - i = (a - (i + 1)) + 1 by omega, List.drop_succ_cons, show max a (i + 1) = max a i by omega]
    · by_cases h2 : i ≤ b
      · rw [show decide (a ≤ i ∧ i ≤ b) = true by simp; omega, cT, show a - i = 0 by omega, show a - (i + 1) = 0 by omega, show b + 1 - max a i = (b + 1 - max a (i + 1)) + 1 by omega]
        rfl
      · rw [show decide (a ≤ i ∧ i ≤ b) = false by simp; omega, cF, show b + 1 - max a (i + 1) = 0 by omega, show b + 1 - max a i = 0 by omega]
        simp

def slotA (s : Int × Int) : Nat := (s.1.tdiv 256).toNat
def slotB (s : Int × Int) : Nat := ((s.2 - 1).tdiv 256).toNat

/-- The marks that a span sees. -/
def seen (ms : List Int) (s : Int × Int) : List Int := (ms.drop (slotA s)).take (slotB s + 1 - slotA s)
def markOf (ms : List Int) (s : Int × Int) : List Int × Int :=
  bif marksMay ms && spanMay s then (seen ms s, 0) else ([], 2100)

theorem span_lo {s : Int × Int} (h : spanMay s = true) : 0 ≤ s.1 ∧ s.1 < s.2 ∧ s.2 ≤ 4096 := by simpa [spanMay] using h

theorem slots_lo {s : Int × Int} (h : spanMay s = true) : slotA s ≤ slotB s ∧ slotB s < 16 := by
  have := span_lo h
  unfold slotA slotB
  rw [Int.tdiv_eq_ediv_of_nonneg (by omega), Int.tdiv_eq_ediv_of_nonneg (by omega)]
  omega

theorem slot_meets {s : Int × Int} (h : spanMay s = true) (i : Nat) (hi : i < 16) : meetsB (slotOf i) s = decide (slotA s ≤ i ∧ i ≤ slotB s) := by
  have h1 := span_lo h
  have h2 : spanMay (slotOf i) = true := by
    show decide (0 ≤ (i : Int) * 256 ∧ (i : Int) * 256 < (i : Int) * 256 + 256 ∧ (i : Int) * 256 + 256 ≤ 4096) = true
    exact decide_eq_true ⟨by omega, by omega, by omega⟩
  unfold meetsB
  rw [h, h2, Bool.true_and, Bool.true_and, ← Bool.decide_and]
  refine decide_eq_decide.2 ?_
  have ha : (slotA s : Int) = s.1 / 256 := by unfold slotA; rw [Int.tdiv_eq_ediv_of_nonneg (by omega)]; omega
  have hb : (slotB s : Int) = (s.2 - 1) / 256 := by unfold slotB; rw [Int.tdiv_eq_ediv_of_nonneg (by omega)]; omega
  show ((i : Int) * 256 < s.2 ∧ s.1 < (i : Int) * 256 + 256) ↔ _
  constructor
  · rintro ⟨_, _⟩
    constructor <;> omega
  · rintro ⟨_, _⟩
    constructor <;> omega

noncomputable def S28 : Summ := summ [tL, tSp] (List Int × Int) (fun (d : List Int × (Int × Int)) => some (markOf d.1 d.2)) resLE
theorem ok28 : SumOk Try.prog 28 S28 :=
  sum_k hmix f28.E (fn := Try.f28) (code := f28.code) (by kernel_rfl) (by kernel_rfl) (by kernel_rfl) (fun _ => ttOk) f28.sums f28.inl fun (d : List Int × (Int × Int)) x hx => by
    obtain ⟨ms, s⟩ := d
    obtain rfl := Option.some.inj hx
    refine ⟨0, (f28.eq _ ms s).trans ?_⟩
    unfold markOf
    show (bif !marksMay ms then _ else bif !spanMay s then _ else _) = _
    cases h1 : marksMay ms with
    | false => rfl
    | true =>
      cases h2 : spanMay s with
      | false => rfl
      | true =>
        simp only [marksMay, Bool.and_eq_true, decide_eq_true_eq] at h1
        have h3 := span_lo h2
        have h4 := slots_lo h2
        have ha : s.1.tdiv 256 = (slotA s : Int) := by unfold slotA; rw [Int.tdiv_eq_ediv_of_nonneg (by omega)]; omega
        have hbb : (s.2 - 1).tdiv 256 = (slotB s : Int) := by unfold slotB; rw [Int.tdiv_eq_ediv_of_nonneg (by omega)]; omega
        rw [wrap64 (n := s.2 - 1) (by omega), ha, hbb, wrap64 (n := (slotA s : Int)) (by omega), wrap64 (n := (slotB s : Int)) (by omega), wrap64 (by omega), show ((slotB s : Int) + 1).toNat = slotB s + 1 by omega, Int.toNat_natCast]
        rw [chk_eq (by simp; omega), chk_eq (by simp; omega), chk_eq (by simp; omega)]
        rfl

theorem f29.l0_is (k : Nat) (ms : List Int) (hm : ms.length = 16) (s : Int × Int) (hs : spanMay s = true) : ∀ (n i : Nat) (acc : List Int), i ≤ 16 → 16 < n + i → acc.length ≤ i →
    f29.l0 k n ms (i : Int) s.1 s.2 acc = some (resLE (acc ++ collect (slotA s) (slotB s) i (ms.drop i), 0))
  | 0, i, _, h1, h2, _ => by omega
  | n + 1, i, acc, h1, h2, h3 => by
    by_cases hlt : i < 16
    · have hx : ms[i]? = some ms[i] := List.getElem?_eq_getElem (by omega)
      rw [f29.l0_eq, show decide ((i : Int) < 16) = true by simp; omega, slot_some hlt, idx_in hx, rd_some (t := tI) hx, wrap_succ (by omega), List.drop_eq_getElem_cons (by omega), f29.l0_is k ms hm s hs n (i + 1) acc (by omega) (by omega) (by omega), f29.l0_is k ms hm s hs n (i + 1) (acc ++ [ms[i]]) (by omega) (by omega) (by rw [List.length_append, List.length_singleton]; omega)]
      simp only [cT, bS, collect, kT]
      rw [chk_eq (b := decide ((acc ++ [ms[i]]).length * 8 ≤ 140737488355328)) (by rw [List.length_append, List.length_singleton]; simp; omega)]
      change (bif meetsB (slotOf i) s then _ else _) = _
      rw [slot_meets hs i hlt]
      cases decide (slotA s ≤ i ∧ i ≤ slotB s) <;> simp
    · obtain rfl : i = 16 := by omega
      rw [f29.l0_eq, List.drop_eq_nil_of_le (by omega)]
      simp [collect]

noncomputable def S29 : Summ := S28
theorem ok29 : SumOk Try.prog 29 S29 :=
  sum_k hmix f29.E (fn := Try.f29) (code := f29.code) (by kernel_rfl) (by kernel_rfl) (by kernel_rfl) (fun _ => ttOk) f29.sums f29.inl fun (d : List Int × (Int × Int)) x hx => by
    obtain ⟨ms, s⟩ := d
    obtain rfl := Option.some.inj hx
    refine ⟨17, (f29.eq _ ms s).trans ?_⟩
    unfold markOf
    show (bif !marksMay ms then _ else bif !spanMay s then _ else _) = _
    cases h1 : marksMay ms with
    | false => rfl
    | true =>
      cases h2 : spanMay s with
      | false => rfl
      | true =>
        simp only [marksMay, Bool.and_eq_true, decide_eq_true_eq] at h1
        have := f29.l0_is 17 ms h1.1 s h2 17 0 [] (by omega) (by omega) (by simp)
        simp only [Bool.not_true, cF, Bool.and_self, cT]
        refine this.trans ?_
        rw [collect_eq _ _ (slots_lo h2).1]
        simp [seen]

end Go.Proofs.Ytiboikgoaihccaa.R
