/-
The law MarkTwice: what it comes to is true, of rows that are not too great.
-/
import Derived.Test.YtiboikgoaihccaaS8
namespace Go.Proofs.Ytiboikgoaihccaa.R
set_option linter.unusedVariables false

theorem hit_twice (ss : List (Int × Int)) (i : Nat) : hitB (ss.reverse ++ ss) i = hitB ss i := by
  simp [hitB]

theorem touchFrom_twice (ss : List (Int × Int)) : ∀ (ms : List Int) (i : Nat), touchFrom (ss.reverse ++ ss) i ms = touchFrom ss i ms
  | [], _ => rfl
  | m :: ms, i => by simp only [touchFrom]; rw [hit_twice, touchFrom_twice ss ms]

theorem touch_twice (ms : List Int) (ss : List (Int × Int)) : touch ms (ss.reverse ++ ss) = touch ms ss := by
  unfold touch
  rw [touchFrom_twice]
  simp

theorem f5.l0_is (k : Nat) (ms : List Int) (ss : List (Int × Int)) (e : Int) (t : List Int) (hl : ss.length ≤ 1048576) (fin : Option V)
    (hfin : ∀ n, f5.l0 k (n + 1) ms ss e (ss.length : Nat) t ss.reverse = fin) : ∀ (n i : Nat), i ≤ ss.length → ss.length < n + i → f5.l0 k n ms ss e (i : Nat) t (ss.reverse.take i) = fin
  | 0, i, h1, h2 => by omega
  | n + 1, i, h1, h2 => by
    by_cases hlt : i < ss.length
    · have hr : ss.reverse[i]? = ss[ss.length - 1 - i]? := List.getElem?_reverse hlt
      have hx : ss[ss.length - 1 - i]? = some ss[ss.length - 1 - i] := List.getElem?_eq_getElem (by omega)
      have hw : Go.IntKind.i64.wrap (Go.IntKind.i64.wrap ((ss.length : Int) - 1) - (i : Int)) = ((ss.length - 1 - i : Nat) : Int) := by
        rw [wrap64 (n := (ss.length : Int) - 1) (by omega), wrap64 (by omega)]; omega
      have ht : ss.reverse.take i ++ [ss[ss.length - 1 - i]] = ss.reverse.take (i + 1) := by
        rw [List.take_add_one, hr, hx]
        rfl
      rw [f5.l0_eq, lt_of hlt, cT, hw, idx_in hx, kT, rd_some (t := tSp) hx, ht, chk_eq (by simp; omega), wrap_succ (by omega)]
      exact f5.l0_is k ms ss e t hl fin hfin n (i + 1) (by omega) (by omega)
    · obtain rfl : i = ss.length := by omega
      rw [List.take_of_length_le (by simp)]
      exact hfin n

theorem law5_ev (d : List Int × List (Int × Int)) (h1 : d.2.length ≤ 1048576) :
    ∃ E c, TtOk Try.prog E.tt ∧ SumsOk Try.prog E ∧ InlOk Try.prog E ∧ evFn E c 5 Try.f5 (encL [tL, .list tSp] d) = some (.bool true) := by
  obtain ⟨ms, ss⟩ := d
  simp only at h1
  refine ⟨f5.E (ss.length + 1), 9, ttOk, f5.sums _, f5.inl _, (f5.eq _ ms ss).trans ?_⟩
  rw [chk_eq (by simp; omega), bS]
  have ht : (touch ms ss).1.length < 4611686018427387904 := by
    unfold touch
    cases h : marksMay ms with
    | false => simp
    | true =>
      simp only [marksMay, Bool.and_eq_true, decide_eq_true_eq] at h
      cases ss.all spanMay <;> simp [touchFrom_len, h.1]
  exact f5.l0_is _ ms ss _ _ h1 (some (.bool true)) (fun n => by
    rw [f5.l0_eq, end_lt, cF, chk_eq (by simp; omega), chk_eq (by simp; omega), bS, touch_twice, chk_eq (by simpa using ht), bS, sameB_iff.2 rfl, cT, beq_self_eq_true]) _ 0 (by omega) (by omega)

end Go.Proofs.Ytiboikgoaihccaa.R
