/-
The laws of package bundle.
-/
import Derived.Test.YtiboikgoaihccaaQ38
import Derived.KernelRfl
namespace Go.Proofs.Ytiboikgoaihccaa.R
set_option linter.unusedVariables false

theorem cp_ok {ps : List Pt} (h1 : ps.length * 32 ≤ 140737488351232) (h2 : ∀ p ∈ ps, p.2.length * 8 ≤ 140737488351232) :
    (chk (decide (ps.length * (32 : Nat) ≤ (140737488355328 : Nat))) (chk (ps.all fun p => decide (p.2.length * (8 : Nat) ≤ (140737488355328 : Nat))) (some ps))) = some ps := by
  rw [chk_eq (decide_eq_true (by omega)), chk_eq (List.all_eq_true.2 fun p hp => decide_eq_true (by have := h2 p hp; omega))]

theorem small_ok {ps : List Pt} (h1 : ps.length * 32 ≤ 140737488351232) (h2 : ∀ p ∈ ps, p.2.length * 8 ≤ 140737488351232) : smallP ps = true := by
  unfold smallP
  rw [Bool.and_eq_true]
  exact ⟨decide_eq_true (by omega), List.all_eq_true.2 fun p hp => decide_eq_true (by have := h2 p hp; omega)⟩

theorem loadsOf_len (g : Gr) (ps : List Pt) : (loadsOf g ps).1.length ≤ 16 := by
  cases hf : bForm g ps with
  | false => unfold loadsOf; rw [hf, cF]; simp
  | true =>
    have h4 := links_few (bForm_in hf).1
    cases ha : addPs ps (List.replicate g.2.length 0) with
    | none => unfold loadsOf; rw [hf, cT, ha]; simp
    | some out =>
      have := addPs_len _ ha
      rw [List.length_replicate] at this
      unfold loadsOf
      rw [hf, cT, ha]
      simp only
      omega

/-! ### Bundles -/
theorem f19.over (k : Nat) (g : Gr) (ps : List Pt) (hg : g.2.length * 24 ≤ 140737488351232) (hs : smallP ps = true) (m : Nat) (hm : m ≤ 16) : ∀ (n i : Nat) (a : List Int), a.length = m → i ≤ m → m < n + i →
    f19.l0 k n (i : Int) ps a g.1 g.2 g.1 ps g.2 = some (.bool true)
  | 0, i, a, _, h, h' => by omega
  | n + 1, i, a, ha, h, h' => by
    by_cases hlt : i < m
    · have hb : decide ((0 : Int) ≤ (i : Int) ∧ (i : Int) < (↑a.length : Int)) = true := decide_eq_true (by omega)
      rw [f19.l0_eq, show decide ((i : Int) < (a.length : Int)) = true from decide_eq_true (by omega), cT, chk_eq hb, chk_eq hb, wrap_succ (by omega)]
      exact f19.over k g ps hg hs m hm n (i + 1) _ (by rw [List.length_set]; exact ha) (by omega) (by omega)
    · obtain rfl : i = m := by omega
      rw [f19.l0_eq, ← ha, end_lt, cF, chk_eq (decide_eq_true (by omega)), bS, show sameG (g.1, g.2) (g.1, g.2) = true from sameG_self g, cT, chk_eq hs, bS, sameB_iff.2 rfl]

theorem law19_ev (d : Gr × (Int × (Int × (Int × List Pt)))) (h0 : d.1.2.length * 24 ≤ reachBytes) (h1 : d.2.2.2.2.length * 32 ≤ reachBytes) (h2 : ∀ p ∈ d.2.2.2.2, p.2.length * 8 ≤ reachBytes) :
    ∃ E c, TtOk Try.prog E.tt ∧ SumsOk Try.prog E ∧ InlOk Try.prog E ∧ evFn E c 19 Try.f19 (encL [tG, tI, tI, tI, .list tP] d) = some (.bool true) := by
  obtain ⟨g, src, dst, want, ps⟩ := d
  refine ⟨f19.E 17, 9, ttOk, f19.sums _, f19.inl _, (f19.eq _ g src dst want ps).trans ?_⟩
  simp only [reachBytes] at h0 h1 h2
  have hl := loadsOf_len g ps
  rw [chk_eq (decide_eq_true (by omega)), bS, cp_ok h1 h2, bS, chk_eq (decide_eq_true (by omega)), bS, sameB_iff.2 rfl, Bool.not_true, cF, bne_self_eq_false, cF, beq_self_eq_true, Bool.not_true, cF]
  exact f19.over 17 g ps h0 (small_ok h1 h2) _ hl 17 0 _ rfl (by omega) (by omega)

/-! ### BundleFits -/
theorem law20_ev (d : Gr × (List Int × List Pt)) (h0 : d.2.1.length * 8 ≤ reachBytes) (h1 : d.2.2.length * 32 ≤ reachBytes) (h2 : ∀ p ∈ d.2.2, p.2.length * 8 ≤ reachBytes) :
    ∃ E c, TtOk Try.prog E.tt ∧ SumsOk Try.prog E ∧ InlOk Try.prog E ∧ evFn E c 20 Try.f20 (encL [tG, tL, .list tP] d) = some (.bool true) := by
  obtain ⟨g, cs, ps⟩ := d
  refine ⟨f20.E 17, 9, ttOk, f20.sums _, f20.inl _, (f20.eq _ g cs ps).trans ?_⟩
  simp only [reachBytes] at h0 h1 h2
  rw [chk_eq (decide_eq_true (by omega)), bS, chk_eq (lend_a cs h0), chk_eq (lend_b cs), cp_ok h1 h2, bS, lend_take, beq_self_eq_true, cT, beq_self_eq_true, cT, lend_w cs h0, lend_w1 cs h0]
  rw [chk_eq (lend_c cs), chk_eq (lend_d cs), chk_eq (decide_eq_true (by omega)), bS, sameB_iff.2 rfl, cT, chk_eq (lend_e cs), lend_f, cT, chk_eq (lend_g cs), lend_h, cT, chk_eq (small_ok h1 h2), bS, sameB_iff.2 rfl]

/-! ### BundleParts -/
theorem bForm_sub {g : Gr} {ps qs : List Pt} (h : bForm g ps = true) (hl : qs.length ≤ ps.length) (hm : ∀ q ∈ qs, q ∈ ps) : bForm g qs = true := by
  obtain ⟨h1, h2, h3⟩ := bForm_in h
  unfold bForm
  rw [h1, Bool.true_and, Bool.and_eq_true]
  exact ⟨decide_eq_true (by omega), List.all_eq_true.2 fun q hq => List.all_eq_true.1 h3 q (hm q hq)⟩

theorem loadsOf_some {g : Gr} {ps : List Pt} {out : List Int} (h : bForm g ps = true) (ha : addPs ps (List.replicate g.2.length 0) = some out) : loadsOf g ps = (out, 0) := by
  unfold loadsOf
  rw [h, cT, ha]

theorem f21.l0_is (k : Nat) (b c : List Int) (hl : b.length = c.length) (hb : b.length ≤ 16) (hin : inR (plusL b c)) : ∀ (n i : Nat), i ≤ b.length → b.length < n + i → f21.l0 k n (i : Int) (plusL b c) b c = some (.bool true)
  | 0, i, h, h' => by omega
  | n + 1, i, h, h' => by
    have hpl : (plusL b c).length = b.length := by
      unfold plusL
      rw [List.length_zipWith]
      omega
    by_cases hlt : i < b.length
    · have hx := List.getElem?_eq_getElem hlt
      have hlt2 : i < c.length := by omega
      have hy := List.getElem?_eq_getElem hlt2
      have hz := plus_get hx hy
      have hv := hin _ (List.mem_of_getElem? hz)
      have hM : maxRate = 4611686018427387904 := rfl
      rw [f21.l0_eq, idx_lt' hz, cT, idx_in hz, kT, idx_in hx, kT, idx_in hy, kT, rd_nat (t := tI) hx, rd_nat (t := tI) hy, rd_nat (t := tI) hz, wrap64 (n := b[i] + c[i]) (by omega), bne_self_eq_false, cF, wrap_succ (by omega)]
      exact f21.l0_is k b c hl hb hin n (i + 1) (by omega) (by omega)
    · obtain rfl : i = b.length := by omega
      rw [f21.l0_eq, hpl, show decide ((b.length : Int) < (b.length : Int)) = false by simp, cF]

theorem law21_ev (d : Gr × (List Pt × Int)) :
    ∃ E c, TtOk Try.prog E.tt ∧ SumsOk Try.prog E ∧ InlOk Try.prog E ∧ evFn E c 21 Try.f21 (encL [tG, .list tP, tI] d) = some (.bool true) := by
  obtain ⟨g, ps, at_⟩ := d
  refine ⟨f21.E 17, 9, ttOk, f21.sums _, f21.inl _, (f21.eq _ g ps at_).trans ?_⟩
  cases hw : (loadsOf g ps).2 != 0 with
  | true => rw [cT]
  | false =>
    obtain ⟨out, h1, h2, h3, h4, h5⟩ := loadsOf_ok (g := g) (ps := ps) (by simpa using hw)
    obtain ⟨g1, g2, g3⟩ := bForm_in h1
    have hgl := links_few g1
    rw [cF]
    by_cases hn : at_ < 0
    · rw [decide_eq_true hn, cT]
    · rw [decide_eq_false hn, cF]
      by_cases hm : at_ > (ps.length : Int)
      · rw [decide_eq_true hm, cT]
      · rw [decide_eq_false hm, cF]
        obtain ⟨m, rfl⟩ : ∃ m : Nat, at_ = (m : Int) := ⟨at_.toNat, by omega⟩
        have e1 : List.take ((m : Int).toNat - (0 : Nat)) (List.drop (0 : Nat) ps) = ps.take m := by rw [Int.toNat_natCast, Nat.sub_zero, List.drop_zero]
        have e2 : List.take ((↑ps.length : Int).toNat - (m : Int).toNat) (List.drop (m : Int).toNat ps) = ps.drop m := by
          rw [Int.toNat_natCast, Int.toNat_natCast]
          exact List.take_of_length_le (by rw [List.length_drop]; omega)
        have f1 : bForm g (ps.take m) = true := bForm_sub h1 (by rw [List.length_take]; omega) fun q hq => List.mem_of_mem_take hq
        have f2 : bForm g (ps.drop m) = true := bForm_sub h1 (by rw [List.length_drop]; omega) fun q hq => List.mem_of_mem_drop hq
        have happ : addPs (ps.take m ++ ps.drop m) (List.replicate g.2.length 0) = some out := by rw [List.take_append_drop]; exact h2
        rw [addPs_append] at happ
        cases hb : addPs (ps.take m) (List.replicate g.2.length 0) with
        | none => rw [hb] at happ; cases happ
        | some ob =>
          rw [hb, bS] at happ
          have hbl : ob.length = g.2.length := by rw [addPs_len _ hb, List.length_replicate]
          have hbi : inR ob := addPs_in g.2 _ (bForm_in f1).2.2 (by rw [List.length_replicate]) (zeros_in _) hb
          rw [← plus_zero ob] at happ
          obtain ⟨oc, hc, rfl⟩ := addPs_shift g.2 (ps.drop m) (by rw [List.length_replicate]) (by rw [List.length_replicate]; exact hbl) (bForm_in f2).2.2 (fun x hx => (hbi x hx).1) happ
          have hcl : oc.length = g.2.length := by rw [addPs_len _ hc, List.length_replicate, hbl]
          rw [hbl] at hc
          rw [chk_eq (decide_eq_true ⟨by omega, by omega⟩), chk_eq (decide_eq_true (by omega)), chk_eq (decide_eq_true ⟨by omega, by omega⟩), chk_eq (decide_eq_true (Int.le_refl _)), e1, e2, loadsOf_some f1 hb, loadsOf_some f2 hc, h3]
          simp only []
          rw [show ((0 : Int) != 0) = false by decide, cF, cF, h4, bne_self_eq_false, cF, hbl, bne_self_eq_false, cF, hcl, bne_self_eq_false, cF]
          exact f21.l0_is 17 ob oc (by omega) (by omega) h5 17 0 (by omega) (by omega)

/-! ### BundleOver -/
def three : Gr := (3, [(0, 1, 5), (1, 2, 4), (0, 2, 3)])

theorem loads_two {a b : Int} (ha : 0 ≤ a ∧ a ≤ maxRate) (hb : 0 ≤ b ∧ b ≤ maxRate) :
    loadsOf three [(a, [(0 : Int)]), (b, [(0 : Int), (1 : Int)])] = bif decide (b > maxRate - a) then ([], 701) else ([a + b, b, 0], 0) := by
  have hf : bForm three [(a, [(0 : Int)]), (b, [(0 : Int), (1 : Int)])] = true := by
    have e1 : graphMay three = true := by kernel_rfl
    have e2 : lkIn three.2 0 = true := by decide
    have e3 : lkIn three.2 1 = true := by decide
    unfold bForm
    rw [e1]
    simp only [List.all_cons, List.all_nil, ptOk, e2, e3, rateB, decide_eq_true ha, decide_eq_true hb]
    rfl
  have z : List.replicate three.2.length (0 : Int) = [0, 0, 0] := rfl
  have a1 : addK [0, 0, 0] 0 a = some [a, 0, 0] := by
    unfold addK
    rw [show rd tI [0, 0, 0] 0 = (0 : Int) from rfl, show decide (a > maxRate - (0 : Int)) = false from decide_eq_false (by omega), cF, Int.zero_add]
    rfl
  unfold loadsOf
  rw [hf, cT, z]
  simp only [addPs, addLs]
  rw [a1]
  simp only [bS]
  by_cases h : b > maxRate - a
  · rw [decide_eq_true h, cT]
    have a2 : addK [a, 0, 0] 0 b = none := by
      unfold addK
      rw [show rd tI [a, 0, 0] 0 = a from rfl, decide_eq_true h, cT]
    rw [a2]
    rfl
  · rw [decide_eq_false h, cF]
    have a2 : addK [a, 0, 0] 0 b = some [a + b, 0, 0] := by
      unfold addK
      rw [show rd tI [a, 0, 0] 0 = a from rfl, decide_eq_false h, cF]
      rfl
    have a3 : addK [a + b, 0, 0] 1 b = some [a + b, b, 0] := by
      unfold addK
      rw [show rd tI [a + b, 0, 0] 1 = (0 : Int) from rfl, show decide (b > maxRate - (0 : Int)) = false from decide_eq_false (by omega), cF, Int.zero_add]
      rfl
    rw [a2]
    simp only [bS]
    rw [a3]
    rfl

theorem law22_ev (d : Int) :
    ∃ E c, TtOk Try.prog E.tt ∧ SumsOk Try.prog E ∧ InlOk Try.prog E ∧ evFn E c 22 Try.f22 (encL [tI] d) = some (.bool true) := by
  refine ⟨f22.E 0, 9, ttOk, f22.sums _, f22.inl _, (f22.eq _ d).trans ?_⟩
  have hM : maxRate = 4611686018427387904 := rfl
  by_cases h1 : d < 1
  · rw [decide_eq_true h1, cT]
  · rw [decide_eq_false h1, cF]
    by_cases h2 : d > 4611686018427387904
    · rw [decide_eq_true h2, cT]
    · rw [decide_eq_false h2, cF]
      have w1 : Go.IntKind.i64.wrap ((4611686018427387904 : Int) - d) = maxRate - d := wrap64 (by omega)
      have w2 : Go.IntKind.i64.wrap (maxRate - d + 1) = maxRate - d + 1 := wrap64 (by omega)
      have l1 : loadsOf three [(d, [(0 : Int)]), (maxRate - d, [(0 : Int), (1 : Int)])] = ([maxRate, maxRate - d, 0], 0) := by
        rw [loads_two ⟨by omega, by omega⟩ ⟨by omega, by omega⟩, show decide (maxRate - d > maxRate - d) = false from decide_eq_false (by omega), cF, show d + (maxRate - d) = maxRate by omega]
      have l2 : loadsOf three [(d, [(0 : Int)]), (maxRate - d + 1, [(0 : Int), (1 : Int)])] = ([], 701) := by
        rw [loads_two ⟨by omega, by omega⟩ ⟨by omega, by omega⟩, show decide (maxRate - d + 1 > maxRate - d) = true from decide_eq_true (by omega), cT]
      have l3 : fitsOf three [0, 0, 0] [(d, [(0 : Int)]), (maxRate - d + 1, [(0 : Int), (1 : Int)])] = (false, 701) := by
        unfold fitsOf
        rw [show capsMay three [0, 0, 0] = true by kernel_rfl, cT, l2]
        rfl
      rw [w1, w2, show ((3 : Int), [((0 : Int), (1 : Int), (5 : Int)), ((1 : Int), (2 : Int), (4 : Int)), ((0 : Int), (2 : Int), (3 : Int))]) = three from rfl, l1, l2, l3]
      simp only []
      rw [show ((0 : Int) == 0) = true by decide, cT, chk_eq (decide_eq_true (by simp)), bS, sameB_iff.2 rfl, cT, show ((701 : Int) == 701) = true by decide, cT]

end Go.Proofs.Ytiboikgoaihccaa.R
