/-
The law MarkWhole: what it comes to is true.
-/
import Derived.Test.YtiboikgoaihccaaQ6
namespace Go.Proofs.Ytiboikgoaihccaa.R
set_option linter.unusedVariables false

theorem touchFrom_get (ss : List (Int × Int)) : ∀ (ms : List Int) (i j : Nat), (touchFrom ss i ms)[j]? = (ms[j]?).map fun m => bif hitB ss (i + j) then min (m + 1) 1099511627776 else m
  | [], i, j => by simp [touchFrom]
  | m :: ms, i, 0 => by simp [touchFrom]
  | m :: ms, i, j + 1 => by
    simp only [touchFrom, List.getElem?_cons_succ]
    rw [touchFrom_get ss ms (i + 1) j, show i + 1 + j = i + (j + 1) by omega]

theorem touchFrom_len (ss : List (Int × Int)) : ∀ (ms : List Int) (i : Nat), (touchFrom ss i ms).length = ms.length
  | [], _ => rfl
  | m :: ms, i => by simp [touchFrom, touchFrom_len ss ms (i + 1)]

theorem hit_all {i : Nat} (h : i < 16) : hitB [(0, 4096)] i = true := by
  have : meetsB (0, 4096) (slotOf i) = true := by
    rw [meetsB_comm, slot_meets (by rfl) i h]
    have h1 : slotA (0, 4096) = 0 := by decide
    have h2 : slotB (0, 4096) = 15 := by decide
    rw [h1, h2]
    simp; omega
  simp [hitB, this]

theorem seen_all {ms : List Int} (h : ms.length = 16) : seen ms (0, 4096) = ms := by
  unfold seen
  rw [show slotA (0, 4096) = 0 by decide, show slotB (0, 4096) = 15 by decide]
  rw [List.drop_zero, List.take_of_length_le (by omega)]

theorem law6_ev (d : List Int) : ∃ E c, TtOk Try.prog E.tt ∧ SumsOk Try.prog E ∧ InlOk Try.prog E ∧ evFn E c 6 Try.f6 (encL [tL] d) = some (.bool true) := by
  refine ⟨f6.E 17, 9, ttOk, f6.sums _, f6.inl _, (f6.eq _ d).trans ?_⟩
  unfold touch markOf
  cases h : marksMay d with
  | false => rfl
  | true =>
    have h0 := h
    simp only [marksMay, Bool.and_eq_true, decide_eq_true_eq] at h
    have h1 : ([((0 : Int), (4096 : Int))].all spanMay) = true := by decide
    have h2 : spanMay (0, 4096) = true := by decide
    rw [h1, h2]
    simp only [Bool.and_self, cT]
    rw [seen_all h.1, touchFrom_len]
    rw [show ((0 : Int) != 0) = false by decide, cF, cF, chk_eq (by simp; omega), bS, sameB_iff.2 rfl, Bool.not_true, cF]
    rw [show (((d.length : Nat) : Int) != (d.length : Int)) = false by simp, cF]
    have := loop_any0 (fun n i => f6.l0 17 n d (i : Nat) (touchFrom [(0, 4096)] 0 d)) d (fun _ => false) (some (.bool false)) (some (.bool true)) (fun n i x hx => by
      have hi := idx_lt hx
      have hm := mark_lo (List.all_eq_true.1 h.2 x (List.mem_of_getElem? hx))
      have ht : (touchFrom [(0, 4096)] 0 d)[i]? = some (min (x + 1) 1099511627776) := by
        rw [touchFrom_get, hx, Nat.zero_add, hit_all (by omega)]
        rfl
      rw [f6.l0_eq, idx_lt' hx, idx_in hx, idx_in ht, Int.toNat_natCast, rd_some (t := tI) hx, rd_some (t := tI) ht, wrap_succ (by omega), wrap64 (n := x + 1) (by omega), cT, kT, kT, kT, kT, cF]
      by_cases hlt : x < 1099511627776
      · rw [show min (x + 1) 1099511627776 = x + 1 by omega, show ((x + 1) != x + 1) = false by simp, cF]
      · obtain rfl : x = 1099511627776 := by omega
        rfl) (fun n => by rw [f6.l0_eq, end_lt, cF]) (n := 17) (by omega)
    refine this.trans ?_
    rw [List.any_eq_false.2 (by simp), cF]

end Go.Proofs.Ytiboikgoaihccaa.R
