/-
Vertices, rates, sums.
-/
import Derived.Test.YtiboikgoaihccaaQ7
namespace Go.Proofs.Ytiboikgoaihccaa.R
set_option linter.unusedVariables false

theorem any_eq_comm (vs : List Int) (v : Int) : (vs.any fun x => v == x) = amongB vs v := by
  unfold amongB
  congr 1
  funext x
  rw [Bool.eq_iff_iff, beq_iff_eq, beq_iff_eq]
  exact eq_comm

noncomputable def S48 : Summ := summ [tL, tI] Bool (fun (d : List Int × Int) => chk (decide (d.1.length < 4611686018427387904)) (some (amongB d.1 d.2))) .bool
theorem ok48 : SumOk Try.prog 48 S48 :=
  sum_k hmix f48.E (fn := Try.f48) (code := f48.code) (by kernel_rfl) (by kernel_rfl) (by kernel_rfl) (fun _ => ttOk) f48.sums f48.inl fun (d : List Int × Int) x hx => by
    obtain ⟨hb, hx⟩ := chk_some hx
    obtain rfl := Option.some.inj hx
    have hb : d.1.length < 4611686018427387904 := by simpa using hb
    refine ⟨d.1.length + 1, (f48.eq _ d.1 d.2).trans ?_⟩
    have := loop_any0 (fun n i => f48.l0 (d.1.length + 1) n d.1 d.2 (i : Nat)) d.1 (fun x => x == d.2) (some (.bool true)) (some (.bool false)) (fun n i x hx => by
      have := idx_lt hx
      rw [f48.l0_eq, idx_lt' hx, idx_in hx, rd_some (t := tI) hx, wrap_succ (by omega), cT, kT]) (fun n => by rw [f48.l0_eq, end_lt, cF]) (n := d.1.length + 1) (by omega)
    refine this.trans ?_
    unfold amongB
    cases d.1.any fun x => x == d.2 <;> rfl

noncomputable def S89 : Summ := S48
theorem ok89 : SumOk Try.prog 89 S89 :=
  sum_k hmix f89.E (fn := Try.f89) (code := f89.code) (by kernel_rfl) (by kernel_rfl) (by kernel_rfl) (fun _ => ttOk) f89.sums f89.inl fun (d : List Int × Int) x hx => by
    obtain ⟨hb, hx⟩ := chk_some hx
    obtain rfl := Option.some.inj hx
    have hb : d.1.length < 4611686018427387904 := by simpa using hb
    refine ⟨d.1.length + 1, (f89.eq _ d.1 d.2).trans ?_⟩
    have := loop_any0 (fun n i => f89.l0 (d.1.length + 1) n d.1 d.2 d.1.length (i : Nat)) d.1 (fun x => d.2 == x) (some (.bool true)) (some (.bool false)) (fun n i x hx => by
      have := idx_lt hx
      rw [f89.l0_eq, idx_lt' hx, idx_in hx, rd_some (t := tI) hx, wrap_succ (by omega), cT, kT, show decide ((i : Int) ≥ 0) = true by simp]) (fun n => by rw [f89.l0_eq, end_lt, cF]; rfl) (n := d.1.length + 1) (by omega)
    refine this.trans ?_
    rw [any_eq_comm]
    cases amongB d.1 d.2 <;> rfl

theorem hasV_tree (n v : Int) : (bif decide (v ≥ 0) then some (V.bool (decide (v < n))) else some (.bool false)) = some (.bool (hasV n v)) := by
  unfold hasV
  by_cases h : v ≥ 0
  · rw [decide_eq_true h, cT, show decide (v < n) = decide (0 ≤ v ∧ v < n) from decide_eq_decide.2 (by omega)]
  · rw [decide_eq_false h, cF, decide_eq_false (by omega)]

noncomputable def S92 : Summ := summ [tG, tI] Bool (fun (d : Gr × Int) => some (hasV d.1.1 d.2)) .bool
theorem ok92 : SumOk Try.prog 92 S92 :=
  sum_k hmix f92.E (fn := Try.f92) (code := f92.code) (by kernel_rfl) (by kernel_rfl) (by kernel_rfl) (fun _ => ttOk) f92.sums f92.inl fun (d : Gr × Int) x hx => by
    obtain rfl := Option.some.inj hx
    exact ⟨0, (f92.eq _ d.1 d.2).trans (hasV_tree _ _)⟩
noncomputable def S93 : Summ := S92
theorem ok93 : SumOk Try.prog 93 S93 :=
  sum_k hmix f93.E (fn := Try.f93) (code := f93.code) (by kernel_rfl) (by kernel_rfl) (by kernel_rfl) (fun _ => ttOk) f93.sums f93.inl fun (d : Gr × Int) x hx => by
    obtain rfl := Option.some.inj hx
    exact ⟨0, (f93.eq _ d.1 d.2).trans (hasV_tree _ _)⟩

theorem rateB_tree (v : Int) : (bif decide (v ≥ 0) then some (V.bool (decide (v ≤ 4611686018427387904))) else some (.bool false)) = some (.bool (rateB v)) := by
  unfold rateB
  by_cases h : v ≥ 0
  · rw [decide_eq_true h, cT, show decide (v ≤ 4611686018427387904) = decide (0 ≤ v ∧ v ≤ maxRate) from decide_eq_decide.2 ⟨fun h1 => ⟨h, h1⟩, fun h1 => h1.2⟩]
  · rw [decide_eq_false h, cF, decide_eq_false (fun h1 => h h1.1)]

noncomputable def S98 : Summ := summ [tI] Bool (fun (d : Int) => some (rateB d)) .bool
theorem ok98 : SumOk Try.prog 98 S98 :=
  sum_k hmix f98.E (fn := Try.f98) (code := f98.code) (by kernel_rfl) (by kernel_rfl) (by kernel_rfl) (fun _ => ttOk) f98.sums f98.inl fun (d : Int) x hx => by
    obtain rfl := Option.some.inj hx
    exact ⟨0, (f98.eq _ d).trans (rateB_tree _)⟩
noncomputable def S114 : Summ := S98
theorem ok114 : SumOk Try.prog 114 S114 :=
  sum_k hmix f114.E (fn := Try.f114) (code := f114.code) (by kernel_rfl) (by kernel_rfl) (by kernel_rfl) (fun _ => ttOk) f114.sums f114.inl fun (d : Int) x hx => by
    obtain rfl := Option.some.inj hx
    exact ⟨0, (f114.eq _ d).trans (rateB_tree _)⟩

/-- What rate.Sum tells. -/
def sumTold (xs : List Int) : Int × Bool := match sumUp 0 xs with
  | some t => (t, true)
  | none => (0, false)
@[reducible] def resIB (x : Int × Bool) : V := .tup [.int .i64 x.1, .bool x.2]

noncomputable def S115 : Summ := summ [tL] (Int × Bool) (fun (d : List Int) => chk (decide (d.length < 4611686018427387904)) (some (sumTold d))) resIB

theorem f115.l0_is (k : Nat) (xs : List Int) (hl : xs.length < 4611686018427387904) : ∀ (n i : Nat) (a : Int), i ≤ xs.length → xs.length < n + i → 0 ≤ a → a ≤ maxRate →
    f115.l0 k n a xs xs.length i = some (resIB (match sumUp a (xs.drop i) with | some t => (t, true) | none => (0, false)))
  | 0, i, _, h, h', _, _ => by omega
  | n + 1, i, a, h, h', h0, h1 => by
    by_cases hlt : i < xs.length
    · have hx := List.getElem?_eq_getElem hlt
      have h1' : a ≤ 4611686018427387904 := h1
      rw [f115.l0_eq, idx_lt' hx, idx_in hx, rd_some (t := tI) hx, wrap_succ (by omega), wrap64 (n := 4611686018427387904 - a) (by omega), List.drop_eq_getElem_cons hlt, cT, kT]
      simp only [sumUp]
      generalize xs[i] = x
      by_cases hd : 0 ≤ x ∧ x ≤ maxRate - a
      · have hd2 : x ≤ 4611686018427387904 - a := hd.2
        rw [decide_eq_true hd, cT, decide_eq_true (by omega : x ≥ 0), cT, decide_eq_true (by omega : x ≤ 4611686018427387904), Bool.not_true, cF, decide_eq_false (by omega : ¬ x > 4611686018427387904 - a), cF, wrap64 (n := a + x) (by omega)]
        exact f115.l0_is k xs hl n (i + 1) (a + x) (by omega) (by omega) (by omega) (show a + x ≤ 4611686018427387904 by omega)
      · rw [decide_eq_false hd, cF]
        by_cases hx0 : x ≥ 0
        · rw [decide_eq_true hx0, cT]
          by_cases hx1 : x ≤ 4611686018427387904
          · have : x > 4611686018427387904 - a := by
              have : ¬ x ≤ 4611686018427387904 - a := fun hh => hd ⟨hx0, hh⟩
              omega
            rw [decide_eq_true hx1, Bool.not_true, cF, decide_eq_true this, cT]
          · rw [decide_eq_false hx1, Bool.not_false, cT]
        · rw [decide_eq_false hx0, cF]
    · obtain rfl : i = xs.length := by omega
      rw [f115.l0_eq, end_lt, cF, List.drop_length]
      rfl

theorem ok115 : SumOk Try.prog 115 S115 :=
  sum_k hmix f115.E (fn := Try.f115) (code := f115.code) (by kernel_rfl) (by kernel_rfl) (by kernel_rfl) (fun _ => ttOk) f115.sums f115.inl fun (d : List Int) x hx => by
    obtain ⟨hb, hx⟩ := chk_some hx
    obtain rfl := Option.some.inj hx
    have hb : d.length < 4611686018427387904 := by simpa using hb
    exact ⟨d.length + 1, (f115.eq _ d).trans (f115.l0_is _ d hb _ 0 0 (by omega) (by omega) (by omega) (by decide))⟩

noncomputable def S128 : Summ := summ [tG] (List Int) (fun (g : Gr) => chk (decide (g.2.length ≤ 16777216)) (some (capsOf g))) (.own tI)

theorem f128.l0_is (k : Nat) (ls : List Lk) (hl : ls.length ≤ 16777216) : ∀ (n i : Nat), i ≤ ls.length → ls.length < n + i →
    f128.l0 k n ls ls.length i ((ls.take i).map fun l => l.2.2) = some (.own tI (ls.map fun l => l.2.2))
  | 0, i, h, h' => by omega
  | n + 1, i, h, h' => by
    by_cases hlt : i < ls.length
    · have hx := List.getElem?_eq_getElem hlt
      have e : (ls.take i).map (fun l => l.2.2) ++ [ls[i].2.2] = (ls.take (i + 1)).map fun l => l.2.2 := by
        rw [List.take_add_one, hx, List.map_append]
        rfl
      rw [f128.l0_eq, idx_lt' hx, idx_in hx, rd_some (t := tLk) hx, wrap_succ (by omega), cT, kT, e, chk_eq (by simp; omega)]
      exact f128.l0_is k ls hl n (i + 1) (by omega) (by omega)
    · obtain rfl : i = ls.length := by omega
      rw [f128.l0_eq, end_lt, cF, List.take_length]

theorem ok128 : SumOk Try.prog 128 S128 :=
  sum_k hmix f128.E (fn := Try.f128) (code := f128.code) (by kernel_rfl) (by kernel_rfl) (by kernel_rfl) (fun _ => ttOk) f128.sums f128.inl fun (d : Gr) x hx => by
    obtain ⟨hb, hx⟩ := chk_some hx
    obtain rfl := Option.some.inj hx
    have hb : d.2.length ≤ 16777216 := by simpa using hb
    exact ⟨d.2.length + 1, (f128.eq _ d).trans (f128.l0_is _ d.2 hb _ 0 (by omega) (by omega))⟩

end Go.Proofs.Ytiboikgoaihccaa.R
