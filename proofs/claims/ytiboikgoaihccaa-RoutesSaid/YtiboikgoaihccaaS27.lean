/-
Simple ways.
-/
import Derived.Test.YtiboikgoaihccaaQ27
import Derived.Test.YtiboikgoaihccaaS25
namespace Go.Proofs.Ytiboikgoaihccaa.R
set_option linter.unusedVariables false

def pathB (g : Gr) (src dst : Int) (ls : List Int) : Bool :=
  (walkOf g src ls).2 == 0 && (decide (0 < ls.length) && (rd tI (walkOf g src ls).1 (ls.length : Int) == dst && decide (walkOf g src ls).1.Nodup))

theorem pathB_err {g : Gr} {src dst : Int} {ls : List Int} (h : ((walkOf g src ls).2 == 0) = false) : pathB g src dst ls = false := by
  unfold pathB
  rw [h, Bool.false_and]

noncomputable def S60 : Summ := summ [tG, tI, tI, tL] Bool (fun (d : Gr × (Int × (Int × List Int))) => some (pathB d.1 d.2.1 d.2.2.1 d.2.2.2)) .bool
noncomputable def S61 : Summ := S60

theorem ok60 : SumOk Try.prog 60 S60 :=
  sum_k hmix f60.E (fn := Try.f60) (code := f60.code) (by kernel_rfl) (by kernel_rfl) (by kernel_rfl) (fun _ => ttOk) f60.sums f60.inl fun (d : Gr × (Int × (Int × List Int))) x hx => by
    obtain ⟨g, src, dst, ls⟩ := d
    obtain rfl := Option.some.inj hx
    refine ⟨0, (f60.eq _ g src dst ls).trans ?_⟩
    show _ = some (V.bool (pathB g src dst ls))
    cases hw : (walkOf g src ls).2 == 0 with
    | false => rw [show ((walkOf g src ls).2 != 0) = true by simp only [bne]; rw [hw]; rfl, cT, pathB_err hw]
    | true =>
      obtain ⟨us, h1, h2, h3⟩ := walkOf_ok (g := g) (src := src) (ls := ls) (by simpa using hw)
      obtain ⟨_, _, h4, h5⟩ := walkForm_all h1
      have hlen := walkL_len _ _ _ h2
      rw [show ((walkOf g src ls).2 != 0) = false by simp only [bne]; rw [hw]; rfl, cF]
      unfold pathB
      rw [hw, Bool.true_and]
      by_cases h0 : ls.length = 0
      · rw [show ((↑ls.length : Int) == 0) = true by simp [h0], cT, show decide (0 < ls.length) = false from decide_eq_false (by omega), Bool.false_and]
      · rw [show ((↑ls.length : Int) == 0) = false from beq_eq_false_iff_ne.2 (by omega), cF, show decide (0 < ls.length) = true from decide_eq_true (by omega), Bool.true_and, h3]
        simp only []
        rw [chk_eq (decide_eq_true ⟨by omega, by simp only [List.length_cons]; omega⟩), Int.toNat_natCast]
        cases hd : rd tI (src :: us) (ls.length : Int) == dst with
        | false => rw [show (rd tI (src :: us) (ls.length : Int) != dst) = true by simp only [bne]; rw [hd]; rfl, cT, Bool.false_and]
        | true =>
          have hl : (src :: us).length = ls.length + 1 := by rw [List.length_cons, hlen]
          rw [show (rd tI (src :: us) (ls.length : Int) != dst) = false by simp only [bne]; rw [hd]; rfl, cF, Bool.true_and, chk_eq (decide_eq_true ⟨by omega, by omega⟩), bS, chk_eq (by rw [sortI_len]; exact decide_eq_true ⟨by omega, by omega⟩), bS, wrap_succ (by omega)]
          have key : (((Go.Lib.compact (sortI (src :: us))).length : Int) == ((ls.length + 1 : Nat) : Int)) = decide (src :: us).Nodup := by
            rw [Bool.eq_iff_iff, beq_iff_eq, decide_eq_true_eq, ← compact_full, hl]
            omega
          rw [key]

theorem nodup_hit {xs : List Int} {i j : Nat} {v : Int} (hij : j < i) (hj : xs[j]? = some v) (hi : xs[i]? = some v) : ¬ xs.Nodup := by
  intro h
  unfold List.Nodup at h
  rw [List.pairwise_iff_getElem] at h
  obtain ⟨h1, h2⟩ := List.getElem?_eq_some_iff.1 hj
  obtain ⟨h3, h4⟩ := List.getElem?_eq_some_iff.1 hi
  exact h j i h1 h3 hij (h2.trans h4.symm)

theorem f61.l1_is (k m0 : Nat) (xs : List Int) (i : Nat) (v : Int) (hi : xs[i]? = some v) (hb : xs.length < 4611686018427387904) (n : Nat) (hn : i < n) :
    f61.l1 k n m0 (i : Int) 0 xs = bif (xs.take i).any (fun y => v == y) then some (.bool false) else f61.l0 k m0 ((i + 1 : Nat) : Int) xs := by
  have hlt := (List.getElem?_eq_some_iff.1 hi).1
  have hl : (xs.take i).length = i := by rw [List.length_take]; omega
  exact loop_any0 (fun n j => f61.l1 k n m0 (i : Int) (j : Nat) xs) (xs.take i) (fun y => v == y) (some (.bool false)) (f61.l0 k m0 ((i + 1 : Nat) : Int) xs) (fun n j y hy => by
    have hj := (List.getElem?_eq_some_iff.1 hy).1
    rw [hl] at hj
    have hy' : xs[j]? = some y := by rw [List.getElem?_take_of_lt hj] at hy; exact hy
    rw [f61.l1_eq, show decide ((j : Int) < (i : Int)) = true from decide_eq_true (by omega), cT, idx_in hi, kT, idx_in hy', kT, rd_nat (t := tI) hi, rd_nat (t := tI) hy', wrap_succ (by omega)]
    rfl) (fun n => by rw [hl, f61.l1_eq, show decide ((i : Int) < (i : Int)) = false by simp, cF, wrap_succ (by omega)]) (n := n) (by omega)

theorem f61.l0_is (k : Nat) (xs : List Int) (hb : xs.length < 4611686018427387904) (hk : xs.length < k) : ∀ (n i : Nat), i ≤ xs.length → xs.length < n + i → (xs.take i).Nodup → f61.l0 k n (i : Int) xs = some (.bool (decide xs.Nodup))
  | 0, i, h, h', _ => by omega
  | n + 1, i, h, h', hd => by
    by_cases hlt : i < xs.length
    · have hx := List.getElem?_eq_getElem hlt
      rw [f61.l0_eq, idx_lt' hx, cT, f61.l1_is k n xs i xs[i] hx hb k (by omega)]
      cases hc : (xs.take i).any fun y => xs[i] == y with
      | true =>
        rw [cT]
        obtain ⟨y, hy, he⟩ := List.any_eq_true.1 hc
        obtain ⟨j, hj, he2⟩ := List.getElem_of_mem hy
        have hj2 : j < i := by rw [List.length_take] at hj; omega
        have he3 : xs[j]? = some xs[i] := by
          rw [List.getElem_take] at he2
          rw [List.getElem?_eq_getElem (by omega), he2]
          exact congrArg some (by simpa using he : xs[i] = y).symm
        rw [decide_eq_false (nodup_hit hj2 he3 hx)]
      | false =>
        rw [cF]
        refine f61.l0_is k xs hb hk n (i + 1) (by omega) (by omega) ?_
        rw [List.take_succ_eq_append_getElem hlt, List.nodup_append]
        refine ⟨hd, by simp, fun a ha b hb' => ?_⟩
        rw [List.mem_singleton] at hb'
        subst hb'
        intro he
        rw [he] at ha
        have := List.any_eq_false.1 hc _ ha
        simp at this
    · obtain rfl : i = xs.length := by omega
      rw [List.take_length] at hd
      rw [f61.l0_eq, end_lt, cF, decide_eq_true hd]
      rfl

theorem ok61 : SumOk Try.prog 61 S61 :=
  sum_k hmix f61.E (fn := Try.f61) (code := f61.code) (by kernel_rfl) (by kernel_rfl) (by kernel_rfl) (fun _ => ttOk) f61.sums f61.inl fun (d : Gr × (Int × (Int × List Int))) x hx => by
    obtain ⟨g, src, dst, ls⟩ := d
    obtain rfl := Option.some.inj hx
    refine ⟨67, (f61.eq _ g src dst ls).trans ?_⟩
    show _ = some (V.bool (pathB g src dst ls))
    cases hw : (walkOf g src ls).2 == 0 with
    | false => rw [cF, pathB_err hw]
    | true =>
      obtain ⟨us, h1, h2, h3⟩ := walkOf_ok (g := g) (src := src) (ls := ls) (by simpa using hw)
      obtain ⟨_, _, h4, h5⟩ := walkForm_all h1
      have hlen := walkL_len _ _ _ h2
      have hl : (src :: us).length = ls.length + 1 := by rw [List.length_cons, hlen]
      rw [cT]
      unfold pathB
      rw [hw, Bool.true_and]
      by_cases h0 : ls.length = 0
      · rw [show decide ((↑ls.length : Int) > 0) = false from decide_eq_false (by omega), cF, show decide (0 < ls.length) = false from decide_eq_false (by omega), Bool.false_and]
      · have hw1 : Go.IntKind.i64.wrap ((↑(src :: us).length : Int) - (1 : Int)) = (ls.length : Int) := by rw [hl, wrap64 (by omega)]; omega
        rw [show decide ((↑ls.length : Int) > 0) = true from decide_eq_true (by omega), cT, show decide (0 < ls.length) = true from decide_eq_true (by omega), Bool.true_and, h3]
        simp only []
        rw [hw1, chk_eq (decide_eq_true ⟨by omega, by omega⟩), Int.toNat_natCast]
        cases hd : rd tI (src :: us) (ls.length : Int) == dst with
        | false => rw [cF, Bool.false_and]
        | true =>
          rw [cT, Bool.true_and]
          exact f61.l0_is 67 (src :: us) (by omega) (by omega) 67 0 (by omega) (by omega) (by simp)

noncomputable def S110 : Summ := summ [] Gr (fun _ => some (3, [(0, 1, 5), (1, 2, 4), (0, 2, 3)])) (fun g => .agg [.int .i64 g.1, .own tLk g.2])
theorem ok110 : SumOk Try.prog 110 S110 :=
  sum_k hmix f110.E (fn := Try.f110) (code := f110.code) (by kernel_rfl) (by kernel_rfl) (by kernel_rfl) (fun _ => ttOk) f110.sums f110.inl fun d x hx => by
    obtain rfl := Option.some.inj hx
    exact ⟨0, f110.eq 0⟩

end Go.Proofs.Ytiboikgoaihccaa.R
