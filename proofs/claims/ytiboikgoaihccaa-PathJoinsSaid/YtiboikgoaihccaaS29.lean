/-
The laws Walks, PathSimples, PathLong.
-/
import Derived.Test.YtiboikgoaihccaaQ29
namespace Go.Proofs.Ytiboikgoaihccaa.R
set_option linter.unusedVariables false

theorem walkOf_len (g : Gr) (src : Int) (ls : List Int) : (walkOf g src ls).1.length ≤ 65 := by
  cases hf : walkForm g src ls with
  | false => rw [walkOf_form hf]; simp
  | true =>
    obtain ⟨_, _, h4, _⟩ := walkForm_all hf
    cases hw : walkL g.2 src ls with
    | none => unfold walkOf; rw [hf, cT, hw]; simp
    | some us =>
      unfold walkOf
      rw [hf, cT, hw]
      have := walkL_len _ _ _ hw
      simp only [List.length_cons]
      omega

theorem simpL_len (gl : List Lk) : ∀ (ls : List Int) (kept been : List Int), been.length = kept.length + 1 → (simpL gl ls (kept, been)).1.length ≤ kept.length + ls.length
  | [], kept, been, h => by simp [simpL]
  | l :: ls, kept, been, h => by
    have h1 := stepS_len (l := l) (v := (lk gl l).2.1) h
    have h2 := simpL_len gl ls (stepS (kept, been) l (lk gl l).2.1).1 (stepS (kept, been) l (lk gl l).2.1).2 h1.1
    simp only [simpL, List.length_cons]
    have h3 : (simpL gl ls (stepS (kept, been) l (lk gl l).2.1)).1.length ≤ (stepS (kept, been) l (lk gl l).2.1).1.length + ls.length := h2
    omega

theorem simpleOf_len (g : Gr) (src : Int) (ls : List Int) : (simpleOf g src ls).1.length ≤ 64 := by
  unfold simpleOf
  cases hw : (walkOf g src ls).2 != 0 with
  | true => rw [cT]; simp
  | false =>
    obtain ⟨us, h1, h2, h3⟩ := walkOf_ok (g := g) (src := src) (ls := ls) (by simpa using hw)
    obtain ⟨_, _, h4, _⟩ := walkForm_all h1
    rw [cF]
    have := simpL_len g.2 ls [] [src] rfl
    simp only [List.length_nil] at this
    simp only
    omega

/-! ### Walks -/
theorem f14.end (k n : Nat) (g : Gr) (vs a : List Int) (hg : g.2.length * 24 ≤ 140737488351232) (hv : vs.length * 8 ≤ 140737488351232) :
    f14.l0 k (n + 1) (a.length : Int) vs ((↑vs.length : Int).toNat - (0 : Nat)) a g.1 g.2 g.1 (vs ++ [(-7777 : Int), (-8888 : Int)]) g.2 = some (.bool true) := by
  rw [f14.l0_eq, end_lt, cF, chk_eq (decide_eq_true (by omega)), bS, show sameG (g.1, g.2) (g.1, g.2) = true from sameG_self g, cT]
  rw [lend_take, lend_w vs hv, lend_w1 vs hv]
  rw [chk_eq (lend_c vs), chk_eq (lend_d vs), chk_eq (decide_eq_true (by omega)), bS, sameB_iff.2 rfl, cT, chk_eq (lend_e vs), lend_f, cT, chk_eq (lend_g vs), lend_h]

theorem f14.over (k : Nat) (g : Gr) (vs : List Int) (hg : g.2.length * 24 ≤ 140737488351232) (hv : vs.length * 8 ≤ 140737488351232) (m : Nat) (hm : m ≤ 65) : ∀ (n i : Nat) (a : List Int), a.length = m → i ≤ m → m < n + i →
    f14.l0 k n (i : Int) vs ((↑vs.length : Int).toNat - (0 : Nat)) a g.1 g.2 g.1 (vs ++ [(-7777 : Int), (-8888 : Int)]) g.2 = some (.bool true)
  | 0, i, a, _, h, h' => by omega
  | n + 1, i, a, ha, h, h' => by
    by_cases hlt : i < m
    · have hb : decide ((0 : Int) ≤ (i : Int) ∧ (i : Int) < (↑a.length : Int)) = true := decide_eq_true (by omega)
      rw [f14.l0_eq, show decide ((i : Int) < (a.length : Int)) = true from decide_eq_true (by omega), cT, chk_eq hb, chk_eq hb, wrap_succ (by omega)]
      exact f14.over k g vs hg hv m hm n (i + 1) _ (by rw [List.length_set]; exact ha) (by omega) (by omega)
    · obtain rfl : i = m := by omega
      rw [← ha]
      exact f14.end k n g vs a hg hv

theorem law14_ev (d : Gr × (Int × (Int × List Int))) (h1 : d.1.2.length * 24 ≤ reachBytes) (h2 : d.2.2.2.length * 8 ≤ reachBytes) :
    ∃ E c, TtOk Try.prog E.tt ∧ SumsOk Try.prog E ∧ InlOk Try.prog E ∧ evFn E c 14 Try.f14 (encL [tG, tI, tI, tL] d) = some (.bool true) := by
  obtain ⟨g, src, dst, vs⟩ := d
  refine ⟨f14.E 66, 9, ttOk, f14.sums _, f14.inl _, (f14.eq _ g src dst vs).trans ?_⟩
  simp only [reachBytes] at h1 h2
  have hl := walkOf_len g src vs
  rw [chk_eq (decide_eq_true (by omega)), bS, chk_eq (decide_eq_true (by omega)), bS, chk_eq (lend_a vs h2), chk_eq (lend_b vs), lend_take]
  rw [chk_eq (decide_eq_true (by omega)), bS, sameB_iff.2 rfl, Bool.not_true, cF, bne_self_eq_false, cF, beq_self_eq_true, Bool.not_true, cF]
  exact f14.over 66 g vs h1 h2 _ hl 66 0 _ rfl (by omega) (by omega)

/-! ### PathSimples -/
theorem f15.end (k n : Nat) (vs a : List Int) (hv : vs.length * 8 ≤ 140737488351232) :
    f15.l0 k (n + 1) (a.length : Int) vs ((↑vs.length : Int).toNat - (0 : Nat)) a (vs ++ [(-7777 : Int), (-8888 : Int)]) = some (.bool true) := by
  rw [f15.l0_eq, end_lt, cF]
  rw [lend_take, lend_w vs hv, lend_w1 vs hv]
  rw [chk_eq (lend_c vs), chk_eq (lend_d vs), chk_eq (decide_eq_true (by omega)), bS, sameB_iff.2 rfl, cT, chk_eq (lend_e vs), lend_f, cT, chk_eq (lend_g vs), lend_h]

theorem f15.over (k : Nat) (vs : List Int) (hv : vs.length * 8 ≤ 140737488351232) (m : Nat) (hm : m ≤ 65) : ∀ (n i : Nat) (a : List Int), a.length = m → i ≤ m → m < n + i →
    f15.l0 k n (i : Int) vs ((↑vs.length : Int).toNat - (0 : Nat)) a (vs ++ [(-7777 : Int), (-8888 : Int)]) = some (.bool true)
  | 0, i, a, _, h, h' => by omega
  | n + 1, i, a, ha, h, h' => by
    by_cases hlt : i < m
    · have hb : decide ((0 : Int) ≤ (i : Int) ∧ (i : Int) < (↑a.length : Int)) = true := decide_eq_true (by omega)
      rw [f15.l0_eq, show decide ((i : Int) < (a.length : Int)) = true from decide_eq_true (by omega), cT, chk_eq hb, chk_eq hb, wrap_succ (by omega)]
      exact f15.over k vs hv m hm n (i + 1) _ (by rw [List.length_set]; exact ha) (by omega) (by omega)
    · obtain rfl : i = m := by omega
      rw [← ha]
      exact f15.end k n vs a hv

theorem law15_ev (d : Gr × (Int × List Int)) (h2 : d.2.2.length * 8 ≤ reachBytes) :
    ∃ E c, TtOk Try.prog E.tt ∧ SumsOk Try.prog E ∧ InlOk Try.prog E ∧ evFn E c 15 Try.f15 (encL [tG, tI, tL] d) = some (.bool true) := by
  obtain ⟨g, src, vs⟩ := d
  refine ⟨f15.E 66, 9, ttOk, f15.sums _, f15.inl _, (f15.eq _ g src vs).trans ?_⟩
  simp only [reachBytes] at h2
  have hl := simpleOf_len g src vs
  rw [chk_eq (decide_eq_true (by omega)), bS, chk_eq (lend_a vs h2), chk_eq (lend_b vs), lend_take]
  rw [chk_eq (decide_eq_true (by omega)), bS, sameB_iff.2 rfl, Bool.not_true, cF, bne_self_eq_false, cF]
  exact f15.over 66 vs h2 _ (by omega) 66 0 _ rfl (by omega) (by omega)

/-! ### PathLong -/
/-- To and fro, k times. -/
def toFro (k : Nat) : List Int := (List.range k).map fun (i : Nat) => bitsI Go.BinOp.and Go.IntKind.i64 (i : Int) (1 : Int)

def two : Gr := (2, [(0, 1, 0), (1, 0, 0)])

def longB (k : Nat) : Bool :=
  bif decide ((k : Int) > 64) then (walkOf two 0 (toFro k)).2 == 600 && (simpleOf two 0 (toFro k)).2 == 600
  else (walkOf two 0 (toFro k)).2 == 0 && ((simpleOf two 0 (toFro k)).2 == 0 && ((((walkOf two 0 (toFro k)).1.length : Int) == ((k + 1 : Nat) : Int)) && (((simpleOf two 0 (toFro k)).1.length : Int) == bitsI Go.BinOp.and Go.IntKind.i64 (k : Int) (1 : Int))))

theorem long_all : (List.range 128).all longB = true := by decide +kernel

theorem toFro_len (k : Nat) : (toFro k).length = k := by simp [toFro]
theorem toFro_succ (k : Nat) : toFro (k + 1) = toFro k ++ [bitsI Go.BinOp.and Go.IntKind.i64 (k : Int) (1 : Int)] := by simp [toFro, List.range_succ]

theorem f18.l0_is (k m : Nat) (hm : m < 128) : ∀ (n i : Nat), i ≤ m → m < n + i → f18.l0 k n (m : Int) (i : Int) 2 (toFro i) [((0 : Int), (1 : Int), (0 : Int)), ((1 : Int), (0 : Int), (0 : Int))] = some (.bool true)
  | 0, i, h, h' => by omega
  | n + 1, i, h, h' => by
    by_cases hlt : i < m
    · rw [f18.l0_eq, show decide ((i : Int) < (m : Int)) = true from decide_eq_true (by omega), cT, ← toFro_succ, chk_eq (by rw [toFro_len]; exact decide_eq_true (by omega)), wrap_succ (by omega)]
      exact f18.l0_is k m hm n (i + 1) (by omega) (by omega)
    · obtain rfl : i = m := by omega
      have hall := List.all_eq_true.1 long_all i (List.mem_range.2 hm)
      unfold longB at hall
      rw [f18.l0_eq, show decide ((i : Int) < (i : Int)) = false by simp, cF]
      have e : ((2 : Int), [((0 : Int), (1 : Int), (0 : Int)), ((1 : Int), (0 : Int), (0 : Int))]) = two := rfl
      rw [e]
      cases hc : decide ((i : Int) > 64) with
      | true =>
        rw [hc, cT, Bool.and_eq_true] at hall
        rw [cT, hall.1, cT, hall.2]
      | false =>
        rw [hc, cF, Bool.and_eq_true, Bool.and_eq_true, Bool.and_eq_true] at hall
        rw [cF, hall.1, cT, hall.2.1, cT, wrap_succ (by omega), hall.2.2.1, cT, hall.2.2.2]

theorem and127 (x : Int) : ∃ m : Nat, m < 128 ∧ bitsI Go.BinOp.and Go.IntKind.i64 x (127 : Int) = (m : Int) := by
  have h : (BitVec.ofInt 64 x &&& BitVec.ofInt 64 127).toNat < 128 := by
    rw [BitVec.toNat_and, show (BitVec.ofInt 64 127).toNat = 127 by decide]
    exact Nat.lt_of_le_of_lt Nat.and_le_right (by decide)
  refine ⟨(BitVec.ofInt 64 x &&& BitVec.ofInt 64 127).toNat, h, ?_⟩
  show Go.IntKind.i64.wrap ((BitVec.ofInt 64 x &&& BitVec.ofInt 64 127).toNat : Int) = _
  exact wrap64 (by omega)

theorem law18_ev (d : Int) :
    ∃ E c, TtOk Try.prog E.tt ∧ SumsOk Try.prog E ∧ InlOk Try.prog E ∧ evFn E c 18 Try.f18 (encL [tI] d) = some (.bool true) := by
  refine ⟨f18.E 129, 9, ttOk, f18.sums _, f18.inl _, (f18.eq _ d).trans ?_⟩
  obtain ⟨m, hm, he⟩ := and127 d
  rw [he]
  exact f18.l0_is 129 m hm 129 0 (by omega) (by omega)

end Go.Proofs.Ytiboikgoaihccaa.R
