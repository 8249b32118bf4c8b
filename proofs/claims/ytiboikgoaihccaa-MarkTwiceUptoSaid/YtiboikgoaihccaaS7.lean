/-
The laws of tollbarlaw21: Marks, MarkSeen, MarkTwice: what they come to is true.
-/
import Derived.Test.YtiboikgoaihccaaS6
namespace Go.Proofs.Ytiboikgoaihccaa.R
set_option linter.unusedVariables false

theorem loop_dead {R : Type} (L : Nat → Nat → List Int → Option R) (N : Nat) (fin : Option R) (h1 : ∀ n i s, s.length = N → i < N → ∃ s', s'.length = N ∧ L (n + 1) i s = L n (i + 1) s') (h2 : ∀ n s, s.length = N → L (n + 1) N s = fin) :
    ∀ n i s, s.length = N → i ≤ N → N < n + i → L n i s = fin
  | 0, i, s, hs, h, h' => by omega
  | n + 1, i, s, hs, h, h' => by
    by_cases hlt : i < N
    · obtain ⟨s', hs', he⟩ := h1 n i s hs hlt
      rw [he]
      exact loop_dead L N fin h1 h2 n (i + 1) s' hs' (by omega) (by omega)
    · obtain rfl : i = N := by omega
      exact h2 n s hs

theorem in_of {α : Type} {l : List α} {i : Nat} (h : i < l.length) : decide (0 ≤ (i : Int) ∧ (i : Int) < (l.length : Int)) = true := by simp; omega
theorem lt_of {α : Type} {l : List α} {i : Nat} (h : i < l.length) : decide ((i : Int) < (l.length : Int)) = true := by simp; omega

/-- A row that was lent, as it was: the room behind it, too. -/
theorem kept_end (ms : List Int) (h : ms.length < 4611686018427387900) :
    ((chk (decide ((0 : Int) ≤ (0 : Int) ∧ (0 : Int) ≤ Go.IntKind.i64.wrap ((↑ms.length : Int) + (2 : Int)))) (chk (decide (Go.IntKind.i64.wrap ((↑ms.length : Int) + (2 : Int)) ≤ (↑((ms ++ [(-7777 : Int), (-8888 : Int)]).length - (0 : Nat)) : Int))) (some ()))) = some ()) ∧
    List.take ms.length (List.drop (0 : Nat) (ms ++ [(-7777 : Int), (-8888 : Int)])) = ms ∧
    Go.IntKind.i64.wrap ((↑ms.length : Int) + (2 : Int)) = ((ms.length + 2 : Nat) : Int) ∧ Go.IntKind.i64.wrap ((↑ms.length : Int) + (1 : Int)) = ((ms.length + 1 : Nat) : Int) ∧
    rd tI (ms ++ [(-7777 : Int), (-8888 : Int)]) ((ms.length : Nat) : Int) = -7777 ∧ rd tI (ms ++ [(-7777 : Int), (-8888 : Int)]) ((ms.length + 1 : Nat) : Int) = -8888 := by
  have w1 : Go.IntKind.i64.wrap ((↑ms.length : Int) + (2 : Int)) = ((ms.length + 2 : Nat) : Int) := by rw [wrap64 (by omega)]; omega
  refine ⟨?_, by simp, w1, by rw [wrap64 (by omega)]; omega, rd_some (t := tI) (by simp), rd_some (t := tI) (by simp)⟩
  rw [w1, chk_eq (by simp; omega), chk_eq (by simp)]

theorem f3.l1_is (k : Nat) (ms : List Int) (ss : List (Int × Int)) (hl : ms.length < 4611686018427387900) (hs : ss.length < 4611686018427387904) (a : List Int) (ha : a.length < k) (ha' : a.length < 4611686018427387904) :
    f3.l1 k k 0 ms ss ms.length a (ms ++ [-7777, -8888]) ss = some (.bool true) := by
  refine loop_dead (fun n i s => f3.l1 k n (i : Nat) ms ss ms.length s (ms ++ [-7777, -8888]) ss) a.length (some (.bool true)) (fun n i s hN hi => ?_) (fun n s hN => ?_) k 0 a rfl (by omega) (by omega)
  · exact ⟨_, List.length_set.trans hN, by rw [f3.l1_eq, lt_of (by omega), in_of (by omega), cT, kT, kT, wrap_succ (by omega)]⟩
  · obtain ⟨h0, h1, h2, h3, h4, h5⟩ := kept_end ms hl
    rw [f3.l1_eq, ← hN, end_lt, cF, h1, h2, h3]
    rw [chk_eq (by simp; omega), chk_eq (by simp), chk_eq (by simp; omega), bS, sameB_iff.2 rfl, cT]
    simp only [Int.toNat_natCast, Nat.zero_add]
    try simp only [h3]
    rw [chk_eq (by simp; omega), h4, h5, show ((-7777 : Int) == -7777) = true by decide, show ((-8888 : Int) == -8888) = true by decide, cT, chk_eq (by simp; omega), cT, chk_eq (by simp; omega), bS, sameB_iff.2 rfl]

theorem f3.l0_is (k : Nat) (ms : List Int) (ss : List (Int × Int)) (hl : ms.length < 4611686018427387900) (hs : ss.length < 4611686018427387904) (a c : List Int) (ha : a.length < k) (ha' : a.length < 4611686018427387904) (hc : c.length < k) (hc' : c.length < 4611686018427387904) :
    f3.l0 k k 0 ms ss ms.length a (ms ++ [-7777, -8888]) ss c = some (.bool true) := by
  refine loop_dead (fun n i s => f3.l0 k n (i : Nat) ms ss ms.length s (ms ++ [-7777, -8888]) ss c) a.length (some (.bool true)) (fun n i s hN hi => ?_) (fun n s hN => ?_) k 0 a rfl (by omega) (by omega)
  · exact ⟨_, List.length_set.trans hN, by rw [f3.l0_eq, lt_of (by omega), in_of (by omega), cT, kT, kT, wrap_succ (by omega)]⟩
  · rw [f3.l0_eq, ← hN, end_lt, cF]
    exact f3.l1_is k ms ss hl hs c hc hc'

theorem touch_len (ms : List Int) (ss : List (Int × Int)) : (touch ms ss).1.length ≤ ms.length := by
  unfold touch
  cases marksMay ms && ss.all spanMay with
  | false => simp only [cF]; exact Nat.zero_le _
  | true => simp only [cT, touchFrom_len]; exact Nat.le_refl _

theorem markOf_len (ms : List Int) (s : Int × Int) : (markOf ms s).1.length ≤ ms.length := by
  unfold markOf
  cases marksMay ms && spanMay s with
  | false => simp only [cF]; exact Nat.zero_le _
  | true => simp only [cT, seen]; simp; omega

theorem law3_ev (d : List Int × (List (Int × Int) × (Int × Int))) (h1 : d.1.length * 8 ≤ reachBytes) (h2 : d.2.1.length * 16 ≤ reachBytes) :
    ∃ E c, TtOk Try.prog E.tt ∧ SumsOk Try.prog E ∧ InlOk Try.prog E ∧ evFn E c 3 Try.f3 (encL [tL, .list tSp, tSp] d) = some (.bool true) := by
  obtain ⟨ms, ss, s⟩ := d
  simp only [reachBytes] at h1 h2
  refine ⟨f3.E (ms.length + 1), 9, ttOk, f3.sums _, f3.inl _, (f3.eq _ ms ss s).trans ?_⟩
  have t1 := touch_len ms ss
  have t2 := markOf_len ms s
  have e : List.take ((↑ms.length : Int).toNat - (0 : Nat)) (List.drop (0 : Nat) (ms ++ [(-7777 : Int), (-8888 : Int)])) = ms := by simp
  rw [chk_eq (by simp; omega), bS, chk_eq (by simp; omega), chk_eq (by simp; omega), chk_eq (by simp; omega), bS, e, chk_eq (by simp; omega), bS, bS, chk_eq (by simp; omega), bS, sameB_iff.2 rfl, Bool.not_true, cF]
  rw [show ((touch ms ss).2 != (touch ms ss).2) = false by simp, cF, chk_eq (by simp; omega), bS, sameB_iff.2 rfl, Bool.not_true, cF, show ((markOf ms s).2 != (markOf ms s).2) = false by simp, cF]
  rw [show ((↑ms.length : Int).toNat - (0 : Nat)) = ms.length by simp]
  exact f3.l0_is _ ms ss (by omega) (by omega) _ _ (by omega) (by omega) (by omega) (by omega)

end Go.Proofs.Ytiboikgoaihccaa.R
