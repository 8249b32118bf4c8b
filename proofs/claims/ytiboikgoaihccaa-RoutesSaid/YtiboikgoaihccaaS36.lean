/-
Whether no link has more than its cap.
-/
import Derived.Test.YtiboikgoaihccaaQ35
namespace Go.Proofs.Ytiboikgoaihccaa.R
set_option linter.unusedVariables false

@[reducible] def resBE (x : Bool × Int) : V := .tup [.bool x.1, .int .i64 x.2]

def overB (x : Int × Int) : Bool := decide (x.1 > x.2)

def fitsOf (g : Gr) (cs : List Int) (ps : List Pt) : Bool × Int :=
  bif capsMay g cs then (bif (loadsOf g ps).2 != 0 then (false, (loadsOf g ps).2) else (!((loadsOf g ps).1.zip cs).any overB, 0)) else (false, 700)

theorem loadsOf_ok {g : Gr} {ps : List Pt} (h : (loadsOf g ps).2 = 0) : ∃ out, bForm g ps = true ∧ addPs ps (List.replicate g.2.length 0) = some out ∧ loadsOf g ps = (out, 0) ∧ out.length = g.2.length ∧ inR out := by
  cases hf : bForm g ps with
  | false =>
    unfold loadsOf at h
    rw [hf, cF] at h
    simp at h
  | true =>
    cases ha : addPs ps (List.replicate g.2.length 0) with
    | none =>
      unfold loadsOf at h
      rw [hf, cT, ha] at h
      simp at h
    | some out =>
      refine ⟨out, rfl, rfl, ?_, by rw [addPs_len _ ha, List.length_replicate], addPs_in g.2 ps (bForm_in hf).2.2 (by rw [List.length_replicate]) (zeros_in _) ha⟩
      unfold loadsOf
      rw [hf, cT, ha]

noncomputable def S72 : Summ := summ [tG, tL, .list tP] (Bool × Int) (fun (d : Gr × (List Int × List Pt)) => some (fitsOf d.1 d.2.1 d.2.2)) resBE
noncomputable def S54 : Summ := S72

theorem ok72 : SumOk Try.prog 72 S72 :=
  sum_k hmix f72.E (fn := Try.f72) (code := f72.code) (by kernel_rfl) (by kernel_rfl) (by kernel_rfl) (fun _ => ttOk) f72.sums f72.inl fun (d : Gr × (List Int × List Pt)) x hx => by
    obtain ⟨g, cs, ps⟩ := d
    obtain rfl := Option.some.inj hx
    refine ⟨17, (f72.eq _ g cs ps).trans ?_⟩
    show _ = some (resBE (fitsOf g cs ps))
    unfold fitsOf
    cases hc : capsMay g cs with
    | false => rw [Bool.not_false, cT, cF]
    | true =>
      rw [Bool.not_true, cF, cT]
      cases hl : (loadsOf g ps).2 != 0 with
      | true => rw [cT, cT]
      | false =>
        obtain ⟨out, h1, h2, h3, h4, h5⟩ := loadsOf_ok (g := g) (ps := ps) (by simpa using hl)
        have hcl : cs.length = g.2.length := by
          simp only [capsMay, Bool.and_eq_true] at hc
          exact withinL_len hc.2
        have hgl := links_few (caps_graph hc)
        have hz : (out.zip cs).length = out.length := by simp; omega
        rw [cF, cF, h3]
        simp only []
        refine (loop_any0 (fun n i => f72.l0 17 n cs (out.length : Int) (i : Nat) out) (out.zip cs) overB (some (resBE (false, 0))) (some (resBE (true, 0))) (fun n i x hx => by
          obtain ⟨ha, hb⟩ := zip_get hx
          have := idx_lt ha
          rw [f72.l0_eq, idx_lt' ha, cT, idx_in ha, kT, idx_in hb, kT, rd_nat (t := tI) ha, rd_some (t := tI) hb, wrap_succ (by omega)]
          rfl) (fun n => by rw [hz, f72.l0_eq, end_lt, cF]) (n := 17) (by omega)).trans ?_
        cases (out.zip cs).any overB <;> rfl

theorem ok54 : SumOk Try.prog 54 S54 :=
  sum_k hmix f54.E (fn := Try.f54) (code := f54.code) (by kernel_rfl) (by kernel_rfl) (by kernel_rfl) (fun _ => ttOk) f54.sums f54.inl fun (d : Gr × (List Int × List Pt)) x hx => by
    obtain ⟨g, cs, ps⟩ := d
    obtain rfl := Option.some.inj hx
    refine ⟨17, (f54.eq _ g cs ps).trans ?_⟩
    show _ = some (resBE (fitsOf g cs ps))
    unfold fitsOf
    cases hc : capsMay g cs with
    | false => rw [Bool.not_false, cT, cF]
    | true =>
      rw [Bool.not_true, cF, cT]
      cases hl : (loadsOf g ps).2 != 0 with
      | true => rw [cT, cT]
      | false =>
        obtain ⟨out, h1, h2, h3, h4, h5⟩ := loadsOf_ok (g := g) (ps := ps) (by simpa using hl)
        have hcl : cs.length = g.2.length := by
          simp only [capsMay, Bool.and_eq_true] at hc
          exact withinL_len hc.2
        have hgl := links_few (caps_graph hc)
        have hz : (out.zip cs).length = out.length := by simp; omega
        rw [cF, cF, h3]
        simp only []
        rw [show ((↑out.length : Int) != (↑cs.length : Int)) = false by rw [h4, hcl, bne_self_eq_false], cF]
        refine (loop_any0 (fun n i => f54.l0 17 n cs (i : Nat) out) (out.zip cs) overB (some (resBE (false, 0))) (some (resBE (true, 0))) (fun n i x hx => by
          obtain ⟨ha, hb⟩ := zip_get hx
          have := idx_lt ha
          have hv := h5 _ (List.mem_of_getElem? ha)
          rw [f54.l0_eq, idx_lt' ha, cT, idx_in ha, kT, rd_nat (t := tI) ha, show decide (x.1 < 0) = false from decide_eq_false (by omega), cF, kT, idx_in hb, kT, rd_some (t := tI) hb, wrap_succ (by omega)]
          rfl) (fun n => by rw [hz, f54.l0_eq, end_lt, cF]) (n := 17) (by omega)).trans ?_
        cases (out.zip cs).any overB <;> rfl

end Go.Proofs.Ytiboikgoaihccaa.R
