/-
'MarkTwice': for every input the law returns true, and each argument reads afterwards as it read before. Of arguments that hold together at most 1048576 values and letters.
-/
import Derived.Test.YtiboikgoaihccaaRows
import Derived.Test.YtiboikgoaihccaaS9
import Derived.Test.YtiboikgoaihccaaF1
import Derived.WalkKit
import Derived.ProofKit
import Derived.OpenShut
import Derived.ShutString
import Derived.ChangeOld
import Derived.Below
import Derived.SizedLaws
import Derived.JoinedCond
import Derived.Deep.CondSized
namespace Go.Proofs.Ytiboikgoaihccaa.markTwice
open Go.ChangeShapes Go.WideShapes Go.ChangeAt Go.RowKit R
set_option linter.unusedVariables false

theorem one_le {H : Type} (d : DataW H) : 1 ≤ Rows.uptoBulk d := by
  cases d with
  | lit l => cases l <;> simp [Rows.uptoBulk]
  | nil => simp [Rows.uptoBulk]
  | ptr d => simp [Rows.uptoBulk]
  | slice elems spare => simp [Rows.uptoBulk]
  | agg parts => simp [Rows.uptoBulk]
  | iface t d => simp [Rows.uptoBulk]
  | map entries => simp [Rows.uptoBulk]
  | held h => simp [Rows.uptoBulk]
theorem part_le {H : Type} {d : DataW H} {l : List (DataW H)} (h : d ∈ l) : Rows.uptoBulk d ≤ Rows.uptoBulkAll l := by
  induction l with
  | nil => cases h
  | cons x r ih =>
    simp only [Rows.uptoBulkAll]
    cases List.mem_cons.1 h with
    | inl e => subst e; omega
    | inr e => have := ih e; omega
theorem len_le {H : Type} : ∀ (l : List (DataW H)), l.length ≤ Rows.uptoBulkAll l
  | [] => by simp
  | d :: l => by
    have := one_le d
    have := len_le l
    simp only [Rows.uptoBulkAll, List.length_cons]
    omega
/-- A row of a small reading is short. -/
theorem short {H : Type} {a : Ty} {l : List a.den} {d : DataW H} {ds : List (DataW H)} (h : LD (.list a) l d) (hd : d ∈ ds) (hk : Rows.uptoSmall H ds = true) : l.length ≤ 1048576 := by
  have hb : Rows.uptoBulkAll ds ≤ 1048576 := of_decide_eq_true hk
  have hp := part_le hd
  rcases h with ⟨rfl, _⟩ | ⟨es, sp, rfl, he, _⟩
  · simp
  · have := len_le es
    simp only [Rows.uptoBulk] at hp
    omega

set_option maxRecDepth 100000 in
theorem lifted (os : Os) (started : os.Started) (H : Type) (enc : TypeId × Value → H) (F : Stop.Interp) :
    ReturnsInHanded {} Try.checked os 5 .any ((Rows.OpenSpec.upto Rows.markTwiceSpec).pre6 enc Try.prog Try.f5 Rows.markTwiceUptoRow.domain false) (((Rows.OpenSpec.upto Rows.markTwiceSpec).at F).post enc Try.prog Try.f5 false true false false) := by
  refine returnsInHanded_of_cond_sized (C := Try.checked) (s := Rows.OpenSpec.upto Rows.markTwiceSpec) (k := Rows.uptoSmall) rfl own started (by kernel_rfl) Try.func5
    (OpenSpec.witness (enc := enc) (C := Try.checked) (s := Rows.OpenSpec.upto Rows.markTwiceSpec) (k := Rows.uptoSmall) rfl false ⟨#[], #[.slice none 0 0, .slice none 0 0], []⟩ 8 (by kernel_rfl) (by kernel_rfl) (by kernel_rfl)
      (x := ([.nil, .nil], [], [])) (by kernel_rfl) rfl (by kernel_rfl)) ?_
  intro W base args ds gs before hval0 hW hcnd hk0 hsz0 _
  have hval : ∀ (j : Nat) t v, Try.f5.params[j]? = some t → args[j]? = some v → Value.okWide Try.prog W .any base t v := hval0
  have hW' := hW
  obtain ⟨p, q, hA0, hV, rfl, hfz, hnd⟩ := hW
  have hA : DataW.TrodAll enc Try.prog W 0 (fun _ => true) true Try.f5.params.toList args.toList ds p := hA0
  obtain ⟨rfl, rfl⟩ := trodVars_none hV
  have hsz : (DataW.weightsEach Try.prog (Try.f5.params.toList ++ []) (ds ++ [])).all (· ≤ reachBytes) = true := hsz0
  rw [List.append_nil, List.append_nil] at hsz
  have hk : Rows.uptoSmall H ds = true := by rw [List.append_nil] at hk0; exact hk0
  have hA1 := hA
  rw [Try.params5] at hA1
  obtain ⟨v0, vs0, d0, ds0, p0, q0, e0, rfl, e0', h0, r0⟩ := trodAll_cons hA1
  obtain ⟨v1, vs1, d1, ds1, p1, q1, e1, rfl, e1', h1, r1⟩ := trodAll_cons r0
  obtain ⟨_, rfl, _⟩ := trodAll_nil r1
  refine (law_calls hmix (fn := Try.f5) (code := f5.code) (by kernel_rfl) (by kernel_rfl) (n := 12) (τs := [tL, .list tSp]) (by kernel_rfl) (by kernel_rfl) (fun d _ _ (hl : LDL [tL, .list tSp] d [d0, d1]) => law5_ev d (short (a := tSp) (d := d1) hl.2 (by simp) hk)) hA hval hsz).mono fun e W' ⟨he, bel⟩ => ?_
  subst he
  exact ⟨_, rfl, _, _, _, [], _, [], hW', trodAll_mk1 (shut_bool Try.underlying4 _), args_back laidOut bel _ hA (by kernel_rfl), rfl, bel.frame _, fun h => by cases h⟩

theorem unf : Try.prog.unfollowed 5 = Rows.markTwiceUptoRow.unfollowed := by kernel_rfl
theorem named : Try.prog.varsNamed 5 = Rows.markTwiceUptoRow.named := by kernel_rfl
theorem recs : Try.prog.recurses 5 = Rows.markTwiceUptoRow.recurses := by kernel_rfl
theorem inPl : Try.prog.inPlace 5 = Rows.markTwiceUptoRow.inPlace := by kernel_rfl

theorem closed : joinedFacts Try.prog 5 Try.f5 Rows.markTwiceSpec Rows.markTwiceUptoRow = true := by
  unfold joinedFacts
  rw [laidOut, rowed, heard, enters, lifts, makes, unf, named, recs, inPl]
  repeat' (with_reducible apply andT)
  all_goals as_aux_lemma => kernel_rfl

set_option maxRecDepth 100000 in
theorem over : Rows.markTwiceUptoRow.holds Try.pinned (Rows.OpenSpec.upto Rows.markTwiceSpec) :=
  OpenClaim.holds_of_cond 5 Try.f5 rfl rfl rfl rfl rfl rfl rfl ⟨rfl, rfl, rfl, rfl, rfl⟩ rfl rfl rfl rfl rfl (by kernel_rfl) Try.func5 closed
    (of_decide_eq_true (by kernel_rfl)) (by unfold Func.isWrapper; first | (rw [if_pos (by decide +kernel)]; kernel_rfl) | (rw [if_neg (by decide +kernel)]; exact ⟨rfl, rfl⟩))
    (fun os started H enc _ F => lifted os started H enc F)
theorem proved : Rows.MarkTwiceUptoSaid := over
#print axioms proved
end Go.Proofs.Ytiboikgoaihccaa.markTwice
namespace Go.Proofs.Ytiboikgoaihccaa
/-- The row, under a short name, for the claim. -/
theorem markTwice_holds : Rows.MarkTwiceUptoSaid := markTwice.proved
end Go.Proofs.Ytiboikgoaihccaa
