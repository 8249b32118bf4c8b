/-
'CalendarOwn': for every input the law returns true, and each argument reads afterwards as it read before. No condition.
-/
import Derived.Test.YtkflbkcfabnomaaGreatP9f
import Derived.Test.YtkflbkcfabnomaaGreatRows
import Derived.WalkKit
import Derived.ProofKit
import Derived.OpenShut
import Derived.ShutString
import Derived.ChangeOld
import Derived.Below
import Derived.SizedLaws
namespace Go.Proofs.YtkflbkcfabnomaaGreat.calendarOwn
open Go.ChangeShapes Go.WideShapes Go.ChangeAt Go.RowKit R
set_option linter.unusedVariables false

set_option maxRecDepth 100000 in
theorem lifted (os : Os) (started : os.Started) (H : Type) (enc : TypeId × Value → H) :
    ReturnsInHanded {} Tryz.checked os 9 .any (Rows.calendarOwnSpec.pre6 enc Tryz.prog Tryz.f9 Rows.calendarOwnRow.domain false) (Rows.calendarOwnSpec.post enc Tryz.prog Tryz.f9 false true false false) := by
  refine returnsInHanded_of_change_sized (C := Tryz.checked) own started (by kernel_rfl) Tryz.func9
    (ChangeSpec.witness6 (enc := enc) (C := Tryz.checked) false ⟨#[], #[.agg #[.int .i64 0, .slice none 0 0, .int .i64 0, .int .i64 0, .int .i64 0, .slice none 0 0], .int .i64 0, .agg #[.int .i64 0, .int .i64 0, .int .i64 0, .int .i64 0, .int .i64 0, .int .i64 0, .int .i64 0], .int .i64 0], []⟩ 8 (by kernel_rfl) (by kernel_rfl) (by kernel_rfl) (by kernel_rfl)) ?_
  intro W base args ds gs before hval0 hW hcnd hsz0 _
  have hval : ∀ (j : Nat) t v, Tryz.f9.params[j]? = some t → args[j]? = some v → Value.okWide Tryz.prog W .any base t v := hval0
  have hW' := hW
  obtain ⟨p, q, hA0, hV, rfl, hfz, hnd⟩ := hW
  have hA : DataW.TrodAll enc Tryz.prog W 0 (fun _ => true) true Tryz.f9.params.toList args.toList ds p := hA0
  obtain ⟨rfl, rfl⟩ := trodVars_none hV
  have hsz : (DataW.weightsEach Tryz.prog (Tryz.f9.params.toList ++ []) (ds ++ [])).all (· ≤ reachBytes) = true := hsz0
  rw [List.append_nil, List.append_nil] at hsz
  have hA1 := hA
  rw [Tryz.params9] at hA1
  obtain ⟨v0, vs0, d0, ds0, p0, q0, e0, rfl, e0', h0, r0⟩ := trodAll_cons hA1
  obtain ⟨v1, vs1, d1, ds1, p1, q1, e1, rfl, e1', h1, r1⟩ := trodAll_cons r0
  obtain ⟨v2, vs2, d2, ds2, p2, q2, e2, rfl, e2', h2, r2⟩ := trodAll_cons r1
  obtain ⟨v3, vs3, d3, ds3, p3, q3, e3, rfl, e3', h3, r3⟩ := trodAll_cons r2
  obtain ⟨_, rfl, _⟩ := trodAll_nil r3
  refine (law_calls hmix (fn := Tryz.f9) (code := f9.code) (by kernel_rfl) (by kernel_rfl) (n := 12) (τs := [tBk, tI, tRq, tI]) (by kernel_rfl) (by kernel_rfl) (fun d _ hs _ => law9_ev d hs) hA hval hsz).mono fun e W' ⟨he, bel⟩ => ?_
  subst he
  exact ⟨_, rfl, _, _, _, [], _, [], hW', trodAll_mk1 (shut_bool Tryz.underlying4 _), args_back laidOut bel _ hA (by kernel_rfl), rfl, bel.frame _, fun h => by cases h⟩

theorem unf : Tryz.prog.unfollowed 9 = Rows.calendarOwnRow.unfollowed := by kernel_rfl
theorem named : Tryz.prog.varsNamed 9 = Rows.calendarOwnRow.named := by kernel_rfl
theorem recs : Tryz.prog.recurses 9 = Rows.calendarOwnRow.recurses := by kernel_rfl
theorem inPl : Tryz.prog.inPlace 9 = Rows.calendarOwnRow.inPlace := by kernel_rfl

theorem closed : joinedFacts Tryz.prog 9 Tryz.f9 Rows.calendarOwnSpec Rows.calendarOwnRow = true := by
  unfold joinedFacts
  rw [laidOut, rowed, heard, enters, lifts, makes, unf, named, recs, inPl]
  repeat' (with_reducible apply andT)
  all_goals as_aux_lemma => kernel_rfl

theorem over : Rows.calendarOwnRow.holds Tryz.pinned (OpenSpec.ofChange Rows.calendarOwnSpec) :=
  OpenClaim.holds_of_wide 9 Tryz.f9 rfl rfl rfl rfl rfl rfl rfl ⟨rfl, rfl, rfl, rfl, rfl⟩ rfl rfl rfl rfl rfl (by kernel_rfl) Tryz.func9 closed
    (of_decide_eq_true (by kernel_rfl)) (by unfold Func.isWrapper; first | (rw [if_pos (by decide +kernel)]; kernel_rfl) | (rw [if_neg (by decide +kernel)]; exact ⟨rfl, rfl⟩))
    (fun os started H enc _ => lifted os started H enc)
theorem proved : Rows.CalendarOwnSaid := over
#print axioms proved
end Go.Proofs.YtkflbkcfabnomaaGreat.calendarOwn
namespace Go.Proofs.YtkflbkcfabnomaaGreat
/-- The row, under a short name, for the claim. -/
theorem calendarOwn_holds : Rows.CalendarOwnSaid := calendarOwn.proved
end Go.Proofs.YtkflbkcfabnomaaGreat
