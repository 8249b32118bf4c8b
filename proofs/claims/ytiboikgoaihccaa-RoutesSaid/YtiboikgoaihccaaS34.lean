/-
What goes over the links; whether paths carry a rate.
-/
import Derived.Test.YtiboikgoaihccaaQ34
import Derived.Test.YtiboikgoaihccaaS14
namespace Go.Proofs.Ytiboikgoaihccaa.R
set_option linter.unusedVariables false

theorem sumTold_over {a c : Int} (ha : 0 ≤ a ∧ a ≤ maxRate) (h : c > maxRate - a) : (sumTold [a, c]).2 = false := by
  unfold sumTold
  simp only [sumUp]
  rw [show decide (0 ≤ a ∧ a ≤ maxRate - 0) = true from decide_eq_true (by omega), cT, show decide (0 ≤ c ∧ c ≤ maxRate - (0 + a)) = false from decide_eq_false (by omega), cF]

theorem rd_back (out : List Int) (k : Int) : rd tI out (↑(Int.toNat k) : Int) = rd tI out k := by
  unfold rd
  rw [Int.toNat_natCast]

theorem rd_one (out : List Int) (k : Int) : rd (Ty.int Go.IntKind.i64).one out (↑(Int.toNat k) : Int) = rd tI out k := rd_back out k

/-- What follows a path. -/
def thenL {R : Type} (r : Option (List Int)) (f : List Int → Option R) (e : Option R) : Option R := match r with
  | some o => f o
  | none => e

theorem thenL_congr {R : Type} {r : Option (List Int)} {f g : List Int → Option R} {e : Option R} (h : ∀ o, r = some o → f o = g o) : thenL r f e = thenL r g e := by
  cases r with
  | none => rfl
  | some o => exact h o rfl

theorem thenL_bind {R : Type} {r : Option (List Int)} {q : List Int → Option (List Int)} {f : List Int → Option R} {e : Option R} : thenL (r.bind q) f e = thenL r (fun o => thenL (q o) f e) e := by
  cases r <;> rfl

def inR (out : List Int) : Prop := ∀ x ∈ out, 0 ≤ x ∧ x ≤ maxRate

/-! ### Loads: the program's -/
theorem f67.l1_is (k m0 : Nat) (ps : List Pt) (i : Nat) (r : Int) (ls : List Int) (gl : List Lk) (hi : i < ps.length) (hps : ps.length ≤ 16) (hr : 0 ≤ r ∧ r ≤ maxRate) (hl : ls.length ≤ 64) (hall : ls.all (lkIn gl) = true) : ∀ (n j : Nat) (out : List Int), j ≤ ls.length → ls.length < n + j → out.length = gl.length → inR out →
    f67.l1 k n m0 ps (ps.length : Int) (i : Int) ls (ls.length : Int) (j : Int) out r = thenL (addLs r (ls.drop j) out) (fun o => f67.l0 k m0 ps (ps.length : Int) ((i + 1 : Nat) : Int) o) (some (resLE ([], 701)))
  | 0, j, out, h, h', _, _ => by omega
  | n + 1, j, out, h, h', ho, hin => by
    by_cases hlt : j < ls.length
    · have hx := List.getElem?_eq_getElem hlt
      have hk := of_decide_eq_true (List.all_eq_true.1 hall _ (List.getElem_mem hlt))
      have hk2 : 0 ≤ ls[j] ∧ ls[j] < (out.length : Int) := by omega
      have hb : decide (0 ≤ ls[j] ∧ ls[j] < (↑out.length : Int)) = true := decide_eq_true hk2
      have hv := hin _ (List.mem_of_getElem? (rd_in hk2))
      have s1 : sumTold [r] = (r, true) := sumTold1 hr
      rw [f67.l1_eq, idx_lt' hx, cT, idx_in hx, kT, List.drop_eq_getElem_cons hlt, wrap_succ (i := j) (by omega)]
      simp only [rd_some (t := tI) hx, chk_eq hb, s1, Bool.not_true, cF, rd_one, addLs, thenL_bind]
      by_cases hov : r > maxRate - rd tI out ls[j]
      · have s2 : (sumTold [rd tI out ls[j], r]).2 = false := sumTold_over hv hov
        simp only [s2, Bool.not_false, cF, cT, both_self]
        unfold addK
        rw [decide_eq_true hov, cT]
        rfl
      · have s2 : sumTold [rd tI out ls[j], r] = (rd tI out ls[j] + r, true) := sumTold2 hv hr.1 (by omega)
        simp only [s2, Bool.not_true, cF, cT, both_self]
        have ha : addK out ls[j] r = some (out.set ls[j].toNat (rd tI out ls[j] + r)) := by
          unfold addK
          rw [decide_eq_false hov, cF]
        rw [ha]
        exact f67.l1_is k m0 ps i r ls gl hi hps hr hl hall n (j + 1) _ (by omega) (by omega) (by rw [List.length_set]; exact ho) (addK_in hr.1 hin hk2 ha)
    · obtain rfl : j = ls.length := by omega
      rw [f67.l1_eq, end_lt, cF, List.drop_length, wrap_succ (by omega)]
      rfl

theorem f67.l2_is (k : Nat) (out : List Int) (hl : out.length ≤ 16) : ∀ (n i : Nat) (acc : List Int), i ≤ out.length → out.length < n + i → acc.length = out.length → (∀ j, j < i → acc[j]? = out[j]?) → f67.l2 k n (out.length : Int) (i : Int) out acc = some (resLE (out, 0))
  | 0, i, acc, h, h', _, _ => by omega
  | n + 1, i, acc, h, h', ha, he => by
    by_cases hlt : i < out.length
    · have hx := List.getElem?_eq_getElem hlt
      rw [f67.l2_eq, idx_lt' hx, cT, idx_in hx, kT, chk_eq (decide_eq_true ⟨by omega, by omega⟩), wrap_succ (by omega), rd_one, rd_some (t := tI) hx, Int.toNat_natCast]
      refine f67.l2_is k out hl n (i + 1) _ (by omega) (by omega) (by rw [List.length_set]; exact ha) fun j hj => ?_
      rw [List.getElem?_set]
      by_cases hij : i = j
      · subst hij
        rw [if_pos rfl, if_pos (by omega), hx]
      · rw [if_neg hij]
        exact he j (by omega)
    · obtain rfl : i = out.length := by omega
      have e : acc = out := by
        apply List.ext_getElem?
        intro j
        by_cases hj : j < out.length
        · exact he j hj
        · rw [List.getElem?_eq_none (by omega), List.getElem?_eq_none (by omega)]
      rw [f67.l2_eq, end_lt, cF, e]

theorem f67.l0_is (k : Nat) (ps : List Pt) (gl : List Lk) (hps : ps.length ≤ 16) (hgl : gl.length ≤ 16) (hall : ps.all (ptOk gl) = true) (hk : 65 < k) : ∀ (n i : Nat) (out : List Int), i ≤ ps.length → ps.length < n + i → out.length = gl.length → inR out →
    f67.l0 k n ps (ps.length : Int) (i : Int) out = thenL (addPs (ps.drop i) out) (fun o => some (resLE (o, 0))) (some (resLE ([], 701)))
  | 0, i, out, h, h', _, _ => by omega
  | n + 1, i, out, h, h', ho, hin => by
    by_cases hlt : i < ps.length
    · have hx := List.getElem?_eq_getElem hlt
      obtain ⟨h1, h2, h3⟩ := ptOk_in (List.all_eq_true.1 hall _ (List.getElem_mem hlt))
      have h1 := of_decide_eq_true h1
      rw [f67.l0_eq, idx_lt' hx, cT, idx_in hx, kT, rd_some (t := tP) hx, List.drop_eq_getElem_cons hlt]
      refine (f67.l1_is k n ps i ps[i].1 ps[i].2 gl hlt hps h1 h2 h3 k 0 out (by omega) (by omega) ho hin).trans ?_
      rw [List.drop_zero]
      simp only [addPs, thenL_bind]
      refine thenL_congr fun o hoo => ?_
      have hin2 : ∀ q ∈ ps[i].2, 0 ≤ q ∧ q < (out.length : Int) := fun q hq => by
        have := of_decide_eq_true (List.all_eq_true.1 h3 q hq)
        omega
      exact f67.l0_is k ps gl hps hgl hall hk n (i + 1) o (by omega) (by omega) (by rw [addLs_len _ _ hoo]; exact ho) (addLs_in _ h1.1 _ hin hin2 hoo)
    · obtain rfl : i = ps.length := by omega
      rw [f67.l0_eq, end_lt, cF, List.drop_length, chk_eq (decide_eq_true ⟨by omega, by omega⟩), chk_eq (decide_eq_true ⟨by omega, by omega⟩)]
      refine (f67.l2_is k out (by omega) k 0 _ (by omega) (by omega) (by rw [List.length_replicate]; omega) (fun j hj => by omega)).trans ?_
      rfl

noncomputable def S67 : Summ := summ [tG, .list tP] (List Int × Int) (fun (d : Gr × List Pt) => some (loadsOf d.1 d.2)) resLE
noncomputable def S68 : Summ := S67

theorem zeros_in (n : Nat) : inR (List.replicate n 0) := fun x hx => by
  rw [List.mem_replicate] at hx
  rw [hx.2]
  exact ⟨by decide, by decide⟩

theorem bForm_in {g : Gr} {ps : List Pt} (h : bForm g ps = true) : graphMay g = true ∧ ps.length ≤ 16 ∧ ps.all (ptOk g.2) = true := by
  simp only [bForm, Bool.and_eq_true, decide_eq_true_eq] at h
  exact h

theorem loadsOf_then {g : Gr} {ps : List Pt} (h : bForm g ps = true) : some (resLE (loadsOf g ps)) = thenL (addPs ps (List.replicate g.2.length 0)) (fun o => some (resLE (o, 0))) (some (resLE ([], 701))) := by
  unfold loadsOf
  rw [h, cT]
  cases addPs ps (List.replicate g.2.length 0) <;> rfl

theorem ok67 : SumOk Try.prog 67 S67 :=
  sum_k hmix f67.E (fn := Try.f67) (code := f67.code) (by kernel_rfl) (by kernel_rfl) (by kernel_rfl) (fun _ => ttOk) f67.sums f67.inl fun (d : Gr × List Pt) x hx => by
    obtain ⟨g, ps⟩ := d
    obtain rfl := Option.some.inj hx
    refine ⟨66, (f67.eq _ g ps).trans ?_⟩
    show _ = some (resLE (loadsOf g ps))
    cases hf : bForm g ps with
    | false =>
      rw [Bool.not_false, cT]
      unfold loadsOf
      rw [hf, cF]
    | true =>
      obtain ⟨h1, h2, h3⟩ := bForm_in hf
      have h4 := links_few h1
      rw [Bool.not_true, cF, chk_eq (decide_eq_true ⟨by omega, by omega⟩), chk_eq (decide_eq_true ⟨by omega, by omega⟩), loadsOf_then hf, Int.toNat_natCast]
      exact f67.l0_is 66 ps g.2 h2 h4 h3 (by omega) 66 0 _ (by omega) (by omega) (by rw [List.length_replicate]) (zeros_in _)

/-! ### Loads: the reference's -/
theorem f68.l2_is (k m0 : Nat) (ps : List Pt) (i : Nat) (p : Pt) (gl : List Lk) (hp : ps[i]? = some p) (hps : ps.length ≤ 16) (hr : 0 ≤ p.1 ∧ p.1 ≤ maxRate) (hl : p.2.length ≤ 64) (hall : p.2.all (lkIn gl) = true) : ∀ (n j : Nat) (out : List Int), j ≤ p.2.length → p.2.length < n + j → out.length = gl.length → inR out →
    f68.l2 k n m0 ps (i : Int) (j : Int) out = thenL (addLs p.1 (p.2.drop j) out) (fun o => f68.l1 k m0 ps ((i + 1 : Nat) : Int) o) (some (resLE ([], 701)))
  | 0, j, out, h, h', _, _ => by omega
  | n + 1, j, out, h, h', ho, hin => by
    have hi := idx_lt hp
    have hM : maxRate = 4611686018427387904 := rfl
    rw [f68.l2_eq, idx_in hp, kT, rd_some (t := tP) hp]
    by_cases hlt : j < p.2.length
    · have hx := List.getElem?_eq_getElem hlt
      have hk := of_decide_eq_true (List.all_eq_true.1 hall _ (List.getElem_mem hlt))
      have hk2 : 0 ≤ p.2[j] ∧ p.2[j] < (out.length : Int) := by omega
      have hb : decide (0 ≤ p.2[j] ∧ p.2[j] < (↑out.length : Int)) = true := decide_eq_true hk2
      have hv := hin _ (List.mem_of_getElem? (rd_in hk2))
      rw [idx_lt' hx, cT, kT, idx_in hx, kT, kT, rd_some (t := tI) hx, chk_eq hb, chk_eq hb, kT, chk_eq hb, rd_back, List.drop_eq_getElem_cons hlt, wrap_succ (i := j) (by omega)]
      rw [show Go.IntKind.i64.wrap ((4611686018427387904 : Int) - rd tI out p.2[j]) = maxRate - rd tI out p.2[j] from wrap64 (by omega)]
      simp only [addLs, thenL_bind]
      by_cases hov : p.1 > maxRate - rd tI out p.2[j]
      · rw [decide_eq_true hov, cT]
        unfold addK
        rw [decide_eq_true hov, cT]
        rfl
      · have ha : addK out p.2[j] p.1 = some (out.set p.2[j].toNat (rd tI out p.2[j] + p.1)) := by
          unfold addK
          rw [decide_eq_false hov, cF]
        rw [decide_eq_false hov, cF, ha, wrap64 (n := rd tI out p.2[j] + p.1) (by omega)]
        exact f68.l2_is k m0 ps i p gl hp hps hr hl hall n (j + 1) _ (by omega) (by omega) (by rw [List.length_set]; exact ho) (addK_in hr.1 hin hk2 ha)
    · obtain rfl : j = p.2.length := by omega
      rw [end_lt, cF, List.drop_length, wrap_succ (by omega)]
      rfl

theorem f68.l1_is (k : Nat) (ps : List Pt) (gl : List Lk) (hps : ps.length ≤ 16) (hall : ps.all (ptOk gl) = true) (hk : 65 < k) : ∀ (n i : Nat) (out : List Int), i ≤ ps.length → ps.length < n + i → out.length = gl.length → inR out →
    f68.l1 k n ps (i : Int) out = thenL (addPs (ps.drop i) out) (fun o => some (resLE (o, 0))) (some (resLE ([], 701)))
  | 0, i, out, h, h', _, _ => by omega
  | n + 1, i, out, h, h', ho, hin => by
    by_cases hlt : i < ps.length
    · have hx := List.getElem?_eq_getElem hlt
      obtain ⟨h1, h2, h3⟩ := ptOk_in (List.all_eq_true.1 hall _ (List.getElem_mem hlt))
      have h1 := of_decide_eq_true h1
      rw [f68.l1_eq, idx_lt' hx, cT, List.drop_eq_getElem_cons hlt]
      refine (f68.l2_is k n ps i ps[i] gl hx hps h1 h2 h3 k 0 out (by omega) (by omega) ho hin).trans ?_
      rw [List.drop_zero]
      simp only [addPs, thenL_bind]
      refine thenL_congr fun o hoo => ?_
      have hin2 : ∀ q ∈ ps[i].2, 0 ≤ q ∧ q < (out.length : Int) := fun q hq => by
        have := of_decide_eq_true (List.all_eq_true.1 h3 q hq)
        omega
      exact f68.l1_is k ps gl hps hall hk n (i + 1) o (by omega) (by omega) (by rw [addLs_len _ _ hoo]; exact ho) (addLs_in _ h1.1 _ hin hin2 hoo)
    · obtain rfl : i = ps.length := by omega
      rw [f68.l1_eq, end_lt, cF, List.drop_length]
      rfl

theorem f68.l0_is (k : Nat) (ps : List Pt) (g : Gr) (hps : ps.length ≤ 16) (hgl : g.2.length ≤ 16) : ∀ (n i : Nat), i ≤ ps.length → ps.length < n + i →
    f68.l0 k n ps (i : Int) g.1 g.2 = bif (ps.drop i).all (ptOk g.2) then f68.l1 k k ps 0 (List.replicate g.2.length 0) else some (resLE ([], 700))
  | 0, i, h, h' => by omega
  | n + 1, i, h, h' => by
    by_cases hlt : i < ps.length
    · have hx := List.getElem?_eq_getElem hlt
      rw [f68.l0_eq, idx_lt' hx, cT, idx_in hx, kT, kT, rd_some (t := tP) hx, drop_all _ hlt, wrap_succ (by omega)]
      have e : ptOk g.2 ps[i] = (rateB ps[i].1 && linksB (g.1, g.2) ps[i].2) := rfl
      rw [e]
      cases rateB ps[i].1 with
      | false => rw [Bool.not_false, cT, Bool.false_and, Bool.false_and, cF]
      | true =>
        cases linksB (g.1, g.2) ps[i].2 with
        | false => rw [Bool.not_true, cF, Bool.not_false, cT, Bool.and_false, Bool.false_and, cF]
        | true =>
          rw [Bool.not_true, cF, cF, Bool.true_and, Bool.true_and]
          exact f68.l0_is k ps g hps hgl n (i + 1) (by omega) (by omega)
    · obtain rfl : i = ps.length := by omega
      rw [f68.l0_eq, end_lt, cF, List.drop_length, chk_eq (decide_eq_true ⟨by omega, by omega⟩), chk_eq (decide_eq_true ⟨by omega, by omega⟩), Int.toNat_natCast]
      rfl

theorem ok68 : SumOk Try.prog 68 S68 :=
  sum_k hmix f68.E (fn := Try.f68) (code := f68.code) (by kernel_rfl) (by kernel_rfl) (by kernel_rfl) (fun _ => ttOk) f68.sums f68.inl fun (d : Gr × List Pt) x hx => by
    obtain ⟨g, ps⟩ := d
    obtain rfl := Option.some.inj hx
    refine ⟨66, (f68.eq _ g ps).trans ?_⟩
    show _ = some (resLE (loadsOf g ps))
    have hno : bForm g ps = false → some (resLE (loadsOf g ps)) = some (resLE ([], 700)) := fun h => by
      unfold loadsOf
      rw [h, cF]
    cases hg : graphMay g with
    | false =>
      rw [Bool.not_false, cT, hno (by unfold bForm; rw [hg]; rfl)]
    | true =>
      have h4 := links_few hg
      rw [Bool.not_true, cF]
      by_cases h : ps.length ≤ 16
      · rw [show decide ((↑ps.length : Int) > (16 : Int)) = false from decide_eq_false (by omega), cF]
        refine (f68.l0_is 66 ps g h h4 66 0 (by omega) (by omega)).trans ?_
        rw [List.drop_zero]
        cases ha : ps.all (ptOk g.2) with
        | false =>
          rw [cF, hno (by unfold bForm; rw [ha]; simp)]
        | true =>
          rw [cT, loadsOf_then (by unfold bForm; rw [hg, ha, decide_eq_true h]; rfl)]
          exact f68.l1_is 66 ps g.2 h ha (by omega) 66 0 _ (by omega) (by omega) (by rw [List.length_replicate]) (zeros_in _)
      · rw [show decide ((↑ps.length : Int) > (16 : Int)) = true from decide_eq_true (by omega), cT, hno (by unfold bForm; rw [decide_eq_false h]; simp)]

/-! ### May -/
noncomputable def S69 : Summ := summ [tG, tI, tI, tI, .list tP] Bool (fun (d : Gr × (Int × (Int × (Int × List Pt)))) => some (mayB d.1 d.2.1 d.2.2.1 d.2.2.2.1 d.2.2.2.2)) .bool
noncomputable def S55 : Summ := S69

theorem sumTold_is (xs : List Int) (want : Int) : (bif (sumTold xs).2 then some (V.bool ((sumTold xs).1 == want)) else some (.bool false)) = some (.bool (sumUp 0 xs == some want)) := by
  unfold sumTold
  cases sumUp 0 xs with
  | none => rfl
  | some s => rfl

theorem f69.l0_is (k : Nat) (src dst want : Int) (ps : List Pt) (g : Gr) (hps : ps.length ≤ 16) : ∀ (n i : Nat), i ≤ ps.length → ps.length < n + i →
    f69.l0 k n src dst want ps (ps.length : Int) (i : Int) g.1 g.2 = some (.bool ((ps.drop i).all (fun p => decide (0 < p.1) && pathB g src dst p.2) && (sumUp 0 (ratesOf ps) == some want)))
  | 0, i, h, h' => by omega
  | n + 1, i, h, h' => by
    by_cases hlt : i < ps.length
    · have hx := List.getElem?_eq_getElem hlt
      rw [f69.l0_eq, idx_lt' hx, cT, idx_in hx, kT, rd_some (t := tP) hx, drop_all _ hlt, wrap_succ (by omega)]
      by_cases h0 : 0 < ps[i].1
      · rw [show decide (ps[i].1 ≤ 0) = false from decide_eq_false (by omega), cF, decide_eq_true h0, Bool.true_and, show pathB (g.1, g.2) src dst ps[i].2 = pathB g src dst ps[i].2 from rfl]
        cases pathB g src dst ps[i].2 with
        | false => rw [Bool.not_false, cT, Bool.false_and, Bool.false_and]
        | true =>
          rw [Bool.not_true, cF, Bool.true_and]
          exact f69.l0_is k src dst want ps g hps n (i + 1) (by omega) (by omega)
      · rw [show decide (ps[i].1 ≤ 0) = true from decide_eq_true (by omega), cT, decide_eq_false h0, Bool.false_and, Bool.false_and, Bool.false_and]
    · obtain rfl : i = ps.length := by omega
      have hrl : (ratesOf ps).length = ps.length := by simp [ratesOf]
      rw [f69.l0_eq, end_lt, cF, List.drop_length, chk_eq (decide_eq_true (by omega)), bS, chk_eq (decide_eq_true (by omega)), bS, sumTold_is]
      rfl

theorem ok69 : SumOk Try.prog 69 S69 :=
  sum_k hmix f69.E (fn := Try.f69) (code := f69.code) (by kernel_rfl) (by kernel_rfl) (by kernel_rfl) (fun _ => ttOk) f69.sums f69.inl fun (d : Gr × (Int × (Int × (Int × List Pt)))) x hx => by
    obtain ⟨g, src, dst, want, ps⟩ := d
    obtain rfl := Option.some.inj hx
    refine ⟨17, (f69.eq _ g src dst want ps).trans ?_⟩
    show _ = some (V.bool (mayB g src dst want ps))
    unfold mayB
    cases graphMay g with
    | false => rw [Bool.not_false, cT, Bool.false_and]
    | true =>
      rw [Bool.not_true, cF, Bool.true_and]
      by_cases h0 : 0 < want
      · rw [show decide (want ≤ 0) = false from decide_eq_false (by omega), cF, decide_eq_true h0, Bool.true_and]
        by_cases h : ps.length ≤ 16
        · rw [show decide ((↑ps.length : Int) > (16 : Int)) = false from decide_eq_false (by omega), cF, decide_eq_true h, Bool.true_and]
          exact f69.l0_is 17 src dst want ps g h 17 0 (by omega) (by omega)
        · rw [show decide ((↑ps.length : Int) > (16 : Int)) = true from decide_eq_true (by omega), cT, decide_eq_false h, Bool.false_and]
      · rw [show decide (want ≤ 0) = true from decide_eq_true (by omega), cT, decide_eq_false h0, Bool.false_and]

theorem f55.l0_is (k : Nat) (src dst want : Int) (ps : List Pt) (g : Gr) (hps : ps.length ≤ 16) (hw : want ≤ maxRate) : ∀ (n i : Nat) (all : Int), i ≤ ps.length → ps.length < n + i → 0 ≤ all → all ≤ want →
    f55.l0 k n src dst want ps all (i : Int) g.1 g.2 = some (.bool (refM g src dst want all (ps.drop i)))
  | 0, i, all, h, h', _, _ => by omega
  | n + 1, i, all, h, h', ha, haw => by
    have hM : maxRate = 4611686018427387904 := rfl
    by_cases hlt : i < ps.length
    · have hx := List.getElem?_eq_getElem hlt
      rw [f55.l0_eq, idx_lt' hx, cT, idx_in hx, kT, kT, kT, kT, rd_some (t := tP) hx, List.drop_eq_getElem_cons hlt, wrap_succ (by omega), wrap64 (n := want - all) (by omega)]
      simp only [refM]
      by_cases h1 : 1 ≤ ps[i].1
      · rw [show decide (ps[i].1 < 1) = false from decide_eq_false (by omega), cF]
        by_cases h2 : ps[i].1 ≤ want - all
        · rw [show decide (ps[i].1 > want - all) = false from decide_eq_false (by omega), cF, show decide (1 ≤ ps[i].1 ∧ ps[i].1 ≤ want - all) = true from decide_eq_true ⟨h1, h2⟩, Bool.true_and, show pathB (g.1, g.2) src dst ps[i].2 = pathB g src dst ps[i].2 from rfl, wrap64 (n := all + ps[i].1) (by omega)]
          cases pathB g src dst ps[i].2 with
          | false => rw [Bool.not_false, cT, Bool.false_and]
          | true =>
            rw [Bool.not_true, cF, Bool.true_and]
            exact f55.l0_is k src dst want ps g hps hw n (i + 1) _ (by omega) (by omega) (by omega) (by omega)
        · rw [show decide (ps[i].1 > want - all) = true from decide_eq_true (by omega), cT, show decide (1 ≤ ps[i].1 ∧ ps[i].1 ≤ want - all) = false from decide_eq_false (by omega), Bool.false_and]
      · rw [show decide (ps[i].1 < 1) = true from decide_eq_true (by omega), cT, show decide (1 ≤ ps[i].1 ∧ ps[i].1 ≤ want - all) = false from decide_eq_false (by omega), Bool.false_and]
    · obtain rfl : i = ps.length := by omega
      rw [f55.l0_eq, end_lt, cF, List.drop_length]
      rfl

theorem ok55 : SumOk Try.prog 55 S55 :=
  sum_k hmix f55.E (fn := Try.f55) (code := f55.code) (by kernel_rfl) (by kernel_rfl) (by kernel_rfl) (fun _ => ttOk) f55.sums f55.inl fun (d : Gr × (Int × (Int × (Int × List Pt)))) x hx => by
    obtain ⟨g, src, dst, want, ps⟩ := d
    obtain rfl := Option.some.inj hx
    refine ⟨17, (f55.eq _ g src dst want ps).trans ?_⟩
    show _ = some (V.bool (mayB g src dst want ps))
    rw [← may_ref]
    have hM : maxRate = 4611686018427387904 := rfl
    unfold refB
    cases graphMay g with
    | false => rw [Bool.not_false, cT, Bool.false_and]
    | true =>
      rw [Bool.not_true, cF, Bool.true_and]
      by_cases h0 : 1 ≤ want
      · rw [show decide (want < 1) = false from decide_eq_false (by omega), cF]
        by_cases hw : want ≤ maxRate
        · rw [show decide (want > 4611686018427387904) = false from decide_eq_false (by omega), cF, show decide (1 ≤ want ∧ want ≤ maxRate) = true from decide_eq_true ⟨h0, hw⟩, Bool.true_and]
          by_cases h1 : 1 ≤ ps.length
          · rw [show decide ((↑ps.length : Int) < (1 : Int)) = false from decide_eq_false (by omega), cF]
            by_cases h : ps.length ≤ 16
            · rw [show decide ((↑ps.length : Int) > (16 : Int)) = false from decide_eq_false (by omega), cF, show decide (1 ≤ ps.length ∧ ps.length ≤ 16) = true from decide_eq_true ⟨h1, h⟩, Bool.true_and]
              exact f55.l0_is 17 src dst want ps g h hw 17 0 0 (by omega) (by omega) (by omega) (by omega)
            · rw [show decide ((↑ps.length : Int) > (16 : Int)) = true from decide_eq_true (by omega), cT, show decide (1 ≤ ps.length ∧ ps.length ≤ 16) = false from decide_eq_false (by omega), Bool.false_and]
          · rw [show decide ((↑ps.length : Int) < (1 : Int)) = true from decide_eq_true (by omega), cT, show decide (1 ≤ ps.length ∧ ps.length ≤ 16) = false from decide_eq_false (by omega), Bool.false_and]
        · rw [show decide (want > 4611686018427387904) = true from decide_eq_true (by omega), cT, show decide (1 ≤ want ∧ want ≤ maxRate) = false from decide_eq_false (by omega), Bool.false_and]
      · rw [show decide (want < 1) = true from decide_eq_true (by omega), cT, show decide (1 ≤ want ∧ want ≤ maxRate) = false from decide_eq_false (by omega), Bool.false_and]

end Go.Proofs.Ytiboikgoaihccaa.R
