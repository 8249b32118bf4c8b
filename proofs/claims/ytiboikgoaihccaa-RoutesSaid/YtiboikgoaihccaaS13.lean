/-
Links that leave a set; cuts.
-/
import Derived.Test.YtiboikgoaihccaaQ13
namespace Go.Proofs.Ytiboikgoaihccaa.R
set_option linter.unusedVariables false

theorem rising_has {n : Int} : ∀ {vs : List Int} {p : Option Int}, risingB n p vs = true → ∀ v ∈ vs, hasV n v = true
  | [], _, _, v, hv => by simp at hv
  | x :: vs, p, h, v, hv => by
    simp only [risingB, Bool.and_eq_true] at h
    rcases List.mem_cons.1 hv with rfl | hv
    · exact h.1
    · exact rising_has h.2.2 v hv

theorem among_mem {vs : List Int} {v : Int} : amongB vs v = true ↔ v ∈ vs := by
  unfold amongB
  rw [List.any_eq_true]
  constructor
  · rintro ⟨x, hx, h⟩
    have : x = v := by simpa using h
    rwa [← this]
  · exact fun h => ⟨v, h, by simp⟩

noncomputable def S38 : Summ := summ [tG, tL] (List Int × Int) (fun (d : Gr × List Int) => chk (decide (d.2.length < 4611686018427387904)) (some (leaving d.1 d.2))) resLE
noncomputable def S39 : Summ := S38

theorem f38.l0_is (k : Nat) (ls : List Lk) (vs : List Int) (hl : ls.length ≤ 16) (hv : vs.length < 4611686018427387904) : ∀ (n i : Nat) (acc : List Int), i ≤ ls.length → ls.length < n + i → acc.length ≤ i →
    f38.l0 k n vs ls ls.length i acc = some (resLE (acc ++ leaveFrom vs i (ls.drop i), 0))
  | 0, i, _, h, h', _ => by omega
  | n + 1, i, acc, h, h', ha => by
    by_cases hlt : i < ls.length
    · have hx := List.getElem?_eq_getElem hlt
      rw [f38.l0_eq, idx_lt' hx, idx_in hx, rd_some (t := tLk) hx, wrap_succ (by omega), cT, kT, chk_eq (by simpa using hv), bS, chk_eq (by simpa using hv), bS, List.drop_eq_getElem_cons hlt, f38.l0_is k ls vs hl hv n (i + 1) acc (by omega) (by omega) (by omega), f38.l0_is k ls vs hl hv n (i + 1) (acc ++ [(i : Int)]) (by omega) (by omega) (by rw [List.length_append, List.length_singleton]; omega)]
      rw [chk_eq (b := decide ((acc ++ [(i : Int)]).length * 8 ≤ 140737488355328)) (by rw [List.length_append, List.length_singleton]; simp; omega)]
      simp only [leaveFrom, leavesB]
      cases amongB vs ls[i].1 <;> cases amongB vs ls[i].2.1 <;> simp
    · obtain rfl : i = ls.length := by omega
      rw [f38.l0_eq, end_lt, cF, List.drop_length]
      simp [leaveFrom]

theorem ok38 : SumOk Try.prog 38 S38 :=
  sum_k hmix f38.E (fn := Try.f38) (code := f38.code) (by kernel_rfl) (by kernel_rfl) (by kernel_rfl) (fun _ => ttOk) f38.sums f38.inl fun (d : Gr × List Int) x hx => by
    obtain ⟨g, vs⟩ := d
    obtain ⟨hb, hx⟩ := chk_some hx
    obtain rfl := Option.some.inj hx
    have hb' : vs.length < 4611686018427387904 := by simpa using hb
    refine ⟨17, (f38.eq _ g vs).trans ?_⟩
    rw [chk_eq hb, bS]
    unfold leaving
    cases hr : risingB g.1 none vs && graphMay g with
    | false => rw [Bool.not_false, cT, cF]
    | true =>
      have hg : graphMay g = true := by simp only [Bool.and_eq_true] at hr; exact hr.2
      rw [Bool.not_true, cF, cT]
      exact f38.l0_is 17 g.2 vs (links_few hg) hb' 17 0 [] (by omega) (by have := links_few hg; omega) (by simp)

theorem f39.l0_is (k : Nat) (n0 : Int) (ls : List Lk) (vs : List Int) (hl : ls.length ≤ 16) (hv : vs.length < 4611686018427387904) : ∀ (n i : Nat) (acc : List Int), i ≤ ls.length → ls.length < n + i → acc.length ≤ i →
    f39.l0 k n vs i n0 ls acc = some (resLE (acc ++ leaveFrom vs i (ls.drop i), 0))
  | 0, i, _, h, h', _ => by omega
  | n + 1, i, acc, h, h', ha => by
    by_cases hlt : i < ls.length
    · have hx := List.getElem?_eq_getElem hlt
      rw [f39.l0_eq, idx_lt' hx, idx_in hx, rd_some (t := tLk) hx, wrap_succ (by omega), cT, kT, chk_eq (by simpa using hv), bS, kT, chk_eq (by simpa using hv), bS, List.drop_eq_getElem_cons hlt, f39.l0_is k n0 ls vs hl hv n (i + 1) acc (by omega) (by omega) (by omega), f39.l0_is k n0 ls vs hl hv n (i + 1) (acc ++ [(i : Int)]) (by omega) (by omega) (by rw [List.length_append, List.length_singleton]; omega)]
      rw [chk_eq (b := decide ((acc ++ [(i : Int)]).length * 8 ≤ 140737488355328)) (by rw [List.length_append, List.length_singleton]; simp; omega)]
      simp only [leaveFrom, leavesB]
      cases amongB vs ls[i].1 <;> cases amongB vs ls[i].2.1 <;> simp
    · obtain rfl : i = ls.length := by omega
      rw [f39.l0_eq, end_lt, cF, List.drop_length]
      simp [leaveFrom]

theorem ok39 : SumOk Try.prog 39 S39 :=
  sum_k hmix f39.E (fn := Try.f39) (code := f39.code) (by kernel_rfl) (by kernel_rfl) (by kernel_rfl) (fun _ => ttOk) f39.sums f39.inl fun (d : Gr × List Int) x hx => by
    obtain ⟨g, vs⟩ := d
    obtain ⟨hb, hx⟩ := chk_some hx
    obtain rfl := Option.some.inj hx
    have hb' : vs.length < 4611686018427387904 := by simpa using hb
    refine ⟨17, (f39.eq _ g vs).trans ?_⟩
    rw [chk_eq hb, bS]
    unfold leaving
    cases hg : graphMay g with
    | false => rw [Bool.not_false, cT, Bool.and_false, cF]
    | true =>
      cases hr : risingB g.1 none vs with
      | false => rw [Bool.not_true, cF, Bool.not_false, cT, Bool.false_and, cF]
      | true =>
        rw [Bool.not_true, cF, cF, Bool.and_self, cT]
        exact f39.l0_is 17 g.1 g.2 vs (links_few hg) hb' 17 0 [] (by omega) (by have := links_few hg; omega) (by simp)

noncomputable def S40 : Summ := summ [tG, tI, tI, tL] Bool (fun (d : Gr × (Int × (Int × List Int))) => chk (decide (d.2.2.2.length < 4611686018427387904)) (some (cutMay d.1 d.2.1 d.2.2.1 d.2.2.2))) .bool
noncomputable def S41 : Summ := S40

theorem ok40 : SumOk Try.prog 40 S40 :=
  sum_k hmix f40.E (fn := Try.f40) (code := f40.code) (by kernel_rfl) (by kernel_rfl) (by kernel_rfl) (fun _ => ttOk) f40.sums f40.inl fun (d : Gr × (Int × (Int × List Int))) x hx => by
    obtain ⟨g, src, dst, vs⟩ := d
    obtain ⟨hb, hx⟩ := chk_some hx
    obtain rfl := Option.some.inj hx
    refine ⟨0, (f40.eq _ g src dst vs).trans ?_⟩
    rw [chk_eq hb, bS, chk_eq hb, bS, chk_eq hb, bS]
    unfold cutMay
    cases risingB g.1 none vs && graphMay g <;> cases hasV g.1 dst <;> cases amongB vs src <;> rfl

theorem ok41 : SumOk Try.prog 41 S41 :=
  sum_k hmix f41.E (fn := Try.f41) (code := f41.code) (by kernel_rfl) (by kernel_rfl) (by kernel_rfl) (fun _ => ttOk) f41.sums f41.inl fun (d : Gr × (Int × (Int × List Int))) x hx => by
    obtain ⟨g, src, dst, vs⟩ := d
    obtain ⟨hb, hx⟩ := chk_some hx
    obtain rfl := Option.some.inj hx
    refine ⟨0, (f41.eq _ g src dst vs).trans ?_⟩
    rw [chk_eq hb, bS, chk_eq hb, bS, chk_eq hb, bS]
    unfold cutMay
    cases graphMay g with
    | false => rw [cF, Bool.and_false]; rfl
    | true =>
      rw [cT, Bool.and_true]
      cases hr : risingB g.1 none vs with
      | false => cases hasV g.1 src <;> cases hasV g.1 dst <;> rfl
      | true =>
        cases ha : amongB vs src with
        | false => cases hasV g.1 src <;> cases hasV g.1 dst <;> rfl
        | true =>
          rw [rising_has hr src (among_mem.1 ha)]
          cases hasV g.1 dst <;> rfl

end Go.Proofs.Ytiboikgoaihccaa.R
