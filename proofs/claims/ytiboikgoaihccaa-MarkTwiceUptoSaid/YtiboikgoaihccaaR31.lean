/-
A table that was reckoned ahead.
-/
import Derived.Test.YtiboikgoaihccaaR30
namespace Go.Proofs.Ytiboikgoaihccaa.R
open Go.RowKit

def tiNone : TI := ⟨0, 0, false, .other, [], false, none⟩

def fieldsIn (n : Nat) (x : TI) : Bool := match x.kind with
  | .struct fs => fs.all fun f => Nat.blt f.2 n
  | _ => true

theorem ttOk_of {P : Program} (L : List TI) (h : L = (List.range L.length).map (tiOf P)) (hf : L.all (fieldsIn L.length) = true) : TtOk P (fun t => L.getD t tiNone) := by
  have T := ttOk_tiOf P
  have key : ∀ t, t < L.length → L.getD t tiNone = tiOf P t := by
    intro t ht
    have h1 : L[t]? = ((List.range L.length).map (tiOf P))[t]? := by rw [← h]
    rw [List.getElem?_map, List.getElem?_range ht] at h1
    rw [List.getD_eq_getElem?_getD, h1]
    rfl
  have out : ∀ t, ¬ t < L.length → L.getD t tiNone = tiNone := by
    intro t ht
    rw [List.getD_eq_getElem?_getD, List.getElem?_eq_none (by omega)]
    rfl
  have two : ∀ t, L.getD t tiNone = tiOf P t ∨ L.getD t tiNone = tiNone := fun t => by
    by_cases ht : t < L.length
    · exact .inl (key t ht)
    · exact .inr (out t ht)
  refine ⟨fun t e hk => ?_, fun t fs hk => ?_, fun t n e hk => ?_, fun t k hk => ?_, fun t hk => ?_, fun t hk => ?_, fun t e hk => ?_, fun t hk => ?_, fun t hk => ?_, fun t hk ha => ?_, fun t τ hk => ?_, fun t hk => ?_⟩
  · rcases two t with h1 | h1 <;> simp only [h1] at hk
    · exact T.slice t e hk
    · cases hk
  · by_cases ht : t < L.length
    · have h1 := key t ht
      simp only [h1] at hk
      obtain ⟨F, h2, h3, h4⟩ := T.struct t fs hk
      refine ⟨F, h2, h3, fun f hfm => ?_⟩
      obtain ⟨i, h5, h6⟩ := h4 f hfm
      refine ⟨i, h5, ?_⟩
      have h7 : L[t]? = some (tiOf P t) := by
        rw [List.getD_eq_getElem?_getD, List.getElem?_eq_getElem ht] at h1
        rw [List.getElem?_eq_getElem ht]
        simpa using h1
      have h8 := List.all_eq_true.1 hf _ (List.mem_of_getElem? h7)
      unfold fieldsIn at h8
      rw [hk] at h8
      have h9 := List.all_eq_true.1 h8 (f.offset, f.type) (by rw [← h3]; exact List.mem_map_of_mem hfm)
      have h10 : f.type < L.length := by simpa using h9
      rw [key f.type h10]
      exact h6
    · simp only [out t ht] at hk; cases hk
  · rcases two t with h1 | h1 <;> simp only [h1] at hk
    · exact T.array t n e hk
    · cases hk
  · rcases two t with h1 | h1 <;> simp only [h1] at hk
    · exact T.int t k hk
    · cases hk
  · rcases two t with h1 | h1 <;> simp only [h1] at hk
    · exact T.bool t hk
    · cases hk
  · rcases two t with h1 | h1 <;> simp only [h1] at hk
    · exact T.str t hk
    · cases hk
  · rcases two t with h1 | h1 <;> simp only [h1] at hk
    · exact T.ptr t e hk
    · cases hk
  · rcases two t with h1 | h1 <;> simp only [h1] at hk ⊢
    · exact T.info t hk
    · exact absurd rfl hk
  · rcases two t with h1 | h1 <;> simp only [h1] at hk ⊢
    · exact T.agg t hk
    · exact absurd rfl hk
  · rcases two t with h1 | h1 <;> simp only [h1] at hk ha ⊢
    · exact T.one t hk ha
    · exact absurd rfl hk
  · rcases two t with h1 | h1 <;> simp only [h1] at hk ⊢
    · exact T.ty t τ hk
    · cases hk
  · rcases two t with h1 | h1 <;> simp only [h1] at hk ⊢
    · exact T.eqs t hk
    · cases hk

end Go.Proofs.Ytiboikgoaihccaa.R
