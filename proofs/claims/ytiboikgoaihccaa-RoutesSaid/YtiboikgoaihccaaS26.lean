/-
Numbers none of which stands twice: sorted and made compact they are as many.
-/
import Derived.Test.YtiboikgoaihccaaS22
namespace Go.Proofs.Ytiboikgoaihccaa.R
set_option linter.unusedVariables false

theorem sortI_perm (l : List Int) : (sortI l).Perm l := List.mergeSort_perm l _
theorem sortI_len (l : List Int) : (sortI l).length = l.length := List.length_mergeSort l
theorem sortI_sorted (l : List Int) : (sortI l).Pairwise (· ≤ ·) := by
  have := List.pairwise_mergeSort (le := fun (x y : Int) => decide (x ≤ y)) (fun a b c h1 h2 => by simp at *; omega) (fun a b => by simp; omega) l
  exact this.imp fun h => by simpa using h

theorem keeps_all {z : List Int} : (Lib.compact z).length = z.length ↔ ∀ i, i < z.length → Lib.keeps z.toArray i = true := by
  unfold Lib.compact Lib.compactUpTo
  rw [List.length_map]
  constructor
  · intro h
    have h2 : ((List.range z.length).filter (Lib.keeps z.toArray)).length = (List.range z.length).length := by rw [List.length_range]; exact h
    have := List.length_filter_eq_length_iff.1 h2
    exact fun i hi => this i (List.mem_range.2 hi)
  · intro h
    have : ((List.range z.length).filter (Lib.keeps z.toArray)).length = (List.range z.length).length := List.length_filter_eq_length_iff.2 fun i hi => h i (List.mem_range.1 hi)
    rw [this, List.length_range]

theorem compact_full (l : List Int) : (Lib.compact (sortI l)).length = l.length ↔ l.Nodup := by
  have hs := sortI_sorted l
  have hp := sortI_perm l
  rw [← hp.nodup_iff, ← sortI_len l, keeps_all]
  generalize sortI l = z at hs
  rw [List.pairwise_iff_getElem] at hs
  have hk : ∀ i, i < z.length → (Lib.keeps z.toArray i = true ↔ i = 0 ∨ z[i]! ≠ z[i - 1]!) := by
    intro i hi
    unfold Lib.keeps
    simp
  constructor
  · intro h
    unfold List.Nodup
    rw [List.pairwise_iff_getElem]
    intro i j hi hj hij he
    have h1 := (hk (i + 1) (by omega)).1 (h (i + 1) (by omega))
    rcases h1 with h1 | h1
    · omega
    · rw [getElem!_pos z (i + 1) (by omega), show i + 1 - 1 = i by omega, getElem!_pos z i hi] at h1
      have h2 := hs i (i + 1) hi (by omega) (by omega)
      have h3 : z[i + 1]'(by omega) ≤ z[j] := by
        rcases Nat.lt_or_eq_of_le (show i + 1 ≤ j by omega) with h4 | h4
        · exact hs (i + 1) j (by omega) hj h4
        · subst h4; exact Int.le_refl _
      omega
  · intro h i hi
    rw [hk i hi]
    by_cases h0 : i = 0
    · exact .inl h0
    · refine .inr ?_
      unfold List.Nodup at h
      rw [List.pairwise_iff_getElem] at h
      rw [getElem!_pos z i hi, getElem!_pos z (i - 1) (by omega)]
      exact fun he => h (i - 1) i (by omega) hi (by omega) he.symm

end Go.Proofs.Ytiboikgoaihccaa.R
