/-
'Looks': for every input the law returns true, and each argument reads afterwards as it read before. No condition.
-/
import Derived.Test.YtkflbkcfabnomaaGreatP8g
import Derived.Test.YtkflbkcfabnomaaGreatRows
import Derived.WalkKit
import Derived.ProofKit
import Derived.OpenShut
import Derived.ShutString
import Derived.ChangeOld
import Derived.Below
import Derived.SizedLaws
namespace Go.Proofs.YtkflbkcfabnomaaGreat.looks
open Go.ChangeShapes Go.WideShapes Go.ChangeAt Go.RowKit R
set_option linter.unusedVariables false

set_option maxRecDepth 100000 in
theorem lifted (os : Os) (started : os.Started) (H : Type) (enc : TypeId × Value → H) :
    ReturnsInHanded {} Tryz.checked os 8 .any (Rows.looksSpec.pre6 enc Tryz.prog Tryz.f8 Rows.looksRow.domain false) (Rows.looksSpec.post enc Tryz.prog Tryz.f8 false true false false) := by
  refine returnsInHanded_of_change_sized (C := Tryz.checked) own started (by kernel_rfl) Tryz.func8
    (ChangeSpec.witness6 (enc := enc) (C := Tryz.checked) false ⟨#[], #[.agg #[.int .i64 0, .slice none 0 0, .int .i64 0, .int .i64 0, .int .i64 0, .slice none 0 0], .int .i64 0, .agg #[.int .i64 0, .int .i64 0, .int .i64 0, .int .i64 0, .int .i64 0, .int .i64 0, .int .i64 0]], []⟩ 8 (by kernel_rfl) (by kernel_rfl) (by kernel_rfl) (by kernel_rfl)) ?_
  intro W base args ds gs before hval0 hW hcnd hsz0 _
  have hval : ∀ (j : Nat) t v, Tryz.f8.params[j]? = some t → args[j]? = some v → Value.okWide Tryz.prog W .any base t v := hval0
  have hW' := hW
  obtain ⟨p, q, hA0, hV, rfl, hfz, hnd⟩ := hW
  have hA : DataW.TrodAll enc Tryz.prog W 0 (fun _ => true) true Tryz.f8.params.toList args.toList ds p := hA0
  obtain ⟨rfl, rfl⟩ := trodVars_none hV
  have hsz : (DataW.weightsEach Tryz.prog (Tryz.f8.params.toList ++ []) (ds ++ [])).all (· ≤ reachBytes) = true := hsz0
  rw [List.append_nil, List.append_nil] at hsz
  have hA1 := hA
  rw [Tryz.params8] at hA1
  obtain ⟨v0, vs0, d0, ds0, p0, q0, e0, rfl, e0', h0, r0⟩ := trodAll_cons hA1
  obtain ⟨v1, vs1, d1, ds1, p1, q1, e1, rfl, e1', h1, r1⟩ := trodAll_cons r0
  obtain ⟨v2, vs2, d2, ds2, p2, q2, e2, rfl, e2', h2, r2⟩ := trodAll_cons r1
  obtain ⟨_, rfl, _⟩ := trodAll_nil r2
  refine (law_calls hmix (fn := Tryz.f8) (code := f8.code) (by kernel_rfl) (by kernel_rfl) (n := 12) (τs := [tBk, tI, tRq]) (by kernel_rfl) (by kernel_rfl) (fun d _ hs _ => law8_ev d hs) hA hval hsz).mono fun e W' ⟨he, bel⟩ => ?_
  subst he
  exact ⟨_, rfl, _, _, _, [], _, [], hW', trodAll_mk1 (shut_bool Tryz.underlying4 _), args_back laidOut bel _ hA (by kernel_rfl), rfl, bel.frame _, fun h => by cases h⟩

theorem unf : Tryz.prog.unfollowed 8 = Rows.looksRow.unfollowed := by kernel_rfl
theorem named : Tryz.prog.varsNamed 8 = Rows.looksRow.named := by kernel_rfl
theorem recs : Tryz.prog.recurses 8 = Rows.looksRow.recurses := by kernel_rfl
theorem inPl : Tryz.prog.inPlace 8 = Rows.looksRow.inPlace := by kernel_rfl

theorem closed : joinedFacts Tryz.prog 8 Tryz.f8 Rows.looksSpec Rows.looksRow = true := by
  unfold joinedFacts
  rw [laidOut, rowed, heard, enters, lifts, makes, unf, named, recs, inPl]
  repeat' (with_reducible apply andT)
  all_goals as_aux_lemma => kernel_rfl

theorem over : Rows.looksRow.holds Tryz.pinned (OpenSpec.ofChange Rows.looksSpec) :=
  OpenClaim.holds_of_wide 8 Tryz.f8 rfl rfl rfl rfl rfl rfl rfl ⟨rfl, rfl, rfl, rfl, rfl⟩ rfl rfl rfl rfl rfl (by kernel_rfl) Tryz.func8 closed
    (of_decide_eq_true (by kernel_rfl)) (by unfold Func.isWrapper; first | (rw [if_pos (by decide +kernel)]; kernel_rfl) | (rw [if_neg (by decide +kernel)]; exact ⟨rfl, rfl⟩))
    (fun os started H enc _ => lifted os started H enc)
theorem proved : Rows.LooksSaid := over
#print axioms proved
end Go.Proofs.YtkflbkcfabnomaaGreat.looks
namespace Go.Proofs.YtkflbkcfabnomaaGreat
/-- The row, under a short name, for the claim. -/
theorem looks_holds : Rows.LooksSaid := looks.proved
end Go.Proofs.YtkflbkcfabnomaaGreat
