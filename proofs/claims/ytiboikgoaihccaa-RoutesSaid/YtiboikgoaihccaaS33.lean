/-
A copy of rows of paths; links that are a graph's.
-/
import Derived.Test.YtiboikgoaihccaaQ33
namespace Go.Proofs.Ytiboikgoaihccaa.R
set_option linter.unusedVariables false

def cpP (ps : List Pt) : Option (List Pt) := chk (decide (ps.length * 32 ≤ 140737488355328)) (chk (ps.all fun p => decide (p.2.length * 8 ≤ 140737488355328)) (some ps))

noncomputable def S66 : Summ := summ [.list tP] (List Pt) cpP (.own tP)

theorem f66.l0_is (k : Nat) (ps : List Pt) (hl : ps.length * 32 ≤ 140737488355328) (hall : (ps.all fun p => decide (p.2.length * 8 ≤ 140737488355328)) = true) : ∀ (n i : Nat), i ≤ ps.length → ps.length < n + i → f66.l0 k n ps (i : Int) (ps.take i) = some (.own tP ps)
  | 0, i, h, h' => by omega
  | n + 1, i, h, h' => by
    by_cases hlt : i < ps.length
    · have hx := List.getElem?_eq_getElem hlt
      have hb : decide (List.length ps[i].2 * 8 ≤ 140737488355328) = true := List.all_eq_true.1 hall _ (List.getElem_mem hlt)
      have e : ps.take i ++ [(ps[i].1, ps[i].2)] = ps.take (i + 1) := by
        rw [List.take_succ_eq_append_getElem hlt]
      have hc : decide ((ps.take (i + 1)).length * 32 ≤ 140737488355328) = true := by
        rw [List.length_take]
        exact decide_eq_true (by omega)
      rw [f66.l0_eq, idx_lt' hx, cT, wrap_succ (by omega), rd_some (t := tP) hx]
      simp only [idx_in hx, kT, chk_eq hb, bS, both_self, e, chk_eq hc]
      exact f66.l0_is k ps hl hall n (i + 1) (by omega) (by omega)
    · obtain rfl : i = ps.length := by omega
      rw [f66.l0_eq, end_lt, cF, List.take_length]

theorem ok66 : SumOk Try.prog 66 S66 :=
  sum_k hmix f66.E (fn := Try.f66) (code := f66.code) (by kernel_rfl) (by kernel_rfl) (by kernel_rfl) (fun _ => ttOk) f66.sums f66.inl fun (ps : List Pt) x hx => by
    obtain ⟨h1, hx⟩ := chk_some hx
    obtain ⟨h2, hx⟩ := chk_some hx
    obtain rfl := Option.some.inj hx
    exact ⟨ps.length + 1, (f66.eq _ ps).trans (f66.l0_is _ ps (by simpa using h1) h2 (ps.length + 1) 0 (by omega) (by omega))⟩

def linksB (g : Gr) (ls : List Int) : Bool := decide (ls.length ≤ 64) && ls.all (lkIn g.2)

noncomputable def S106 : Summ := summ [tG, tL] Bool (fun (d : Gr × List Int) => some (linksB d.1 d.2)) .bool

theorem f106.l0_is (k : Nat) (ls : List Int) (g0 : Int) (gl : List Lk) (hl : ls.length ≤ 64) : f106.l0 (k + 65) (k + 65) ls 0 g0 gl = some (.bool (ls.all (lkIn gl))) := by
  refine (loop_any0 (fun n i => f106.l0 (k + 65) n ls (i : Nat) g0 gl) ls (fun l => !lkIn gl l) (some (.bool false)) (some (.bool true)) (fun n i x hx => by
    have := idx_lt hx
    rw [f106.l0_eq, idx_lt' hx, idx_in hx, rd_some (t := tI) hx, wrap_succ (by omega), cT, kT, kT]
    cases hc : lkIn gl x with
    | true =>
      have hc := of_decide_eq_true hc
      rw [show decide (x < 0) = false from decide_eq_false (by omega), cF, show decide (x ≥ (↑gl.length : Int)) = false from decide_eq_false (by omega), cF, Bool.not_true, cF]
    | false =>
      rw [Bool.not_false, cT]
      rcases lkIn_false hc with h1 | ⟨h1, h2⟩
      · rw [h1, cT]
      · rw [h1, cF, h2, cT]) (fun n => by rw [f106.l0_eq, end_lt, cF]) (n := k + 65) (by omega)).trans ?_
  rw [any_lk]
  cases ls.all (lkIn gl) <;> rfl

theorem ok106 : SumOk Try.prog 106 S106 :=
  sum_k hmix f106.E (fn := Try.f106) (code := f106.code) (by kernel_rfl) (by kernel_rfl) (by kernel_rfl) (fun _ => ttOk) f106.sums f106.inl fun (d : Gr × List Int) x hx => by
    obtain ⟨g, ls⟩ := d
    obtain rfl := Option.some.inj hx
    refine ⟨65, (f106.eq _ g ls).trans ?_⟩
    show _ = some (V.bool (linksB g ls))
    unfold linksB
    by_cases h : ls.length ≤ 64
    · rw [show decide ((↑ls.length : Int) > (64 : Int)) = false from decide_eq_false (by omega), cF, decide_eq_true h, Bool.true_and]
      exact f106.l0_is 0 ls g.1 g.2 h
    · rw [show decide ((↑ls.length : Int) > (64 : Int)) = true from decide_eq_true (by omega), cT, decide_eq_false h, Bool.false_and]

end Go.Proofs.Ytiboikgoaihccaa.R
