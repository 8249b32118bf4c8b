/-
  No cell of these rows narrows 'for every input' (looked for: loops, veiled, ifaces, maps, wideKeys, modest, calm, conditions, laid).
  DERIVED. THE GIVEN ROWS OF THIS SEAT. 8 by the template 'for every input the law returns true; each argument reads behind the call as it read before'; 0 by the template 'total and deterministic' (their statements: YtkflbkcfabnomaaGreatTotals.lean).
  GIVEN WITH THE SEED: the statements are not yours to turn. If you find one false, say at which input.
  Laid BY PROGRAM, IN A SANDBOX (cutbox-rows.mjs): the forced cells as the released guide's own fill.sh prints them over the translation 0ea4942f1c142a3d… (all of the seat's roots in one cut). By AI agents, Wed Nov 11 2026. No macro, syntax, notation, axiom, sorry.
-/
import Derived.Test.YtkflbkcfabnomaaGreatChecked
import GoSem.Claim
import GoSem.ClaimJoined
import GoSem.ClaimMapViews
import Derived.JoinedTies
import Derived.KernelRfl
namespace Go.Proofs.YtkflbkcfabnomaaGreat
/- THE CELL 'sum', in the pinned program and in every row, IS THE sha256 OF THE DUMP (.gsa) THAT YtkflbkcfabnomaaGreatProg.lean LOADS. Nothing in Lean hashes anything: it is a label: what it is worth is what the hold of that sum in a sandbox is worth. -/
noncomputable def Tryz.pinned : Pinned := { name := "ytkflbkcfabnomaagreat", sum := "0ea4942f1c142a3d738ec85f2afb8a85b662dedd408075dbcb7dc82a1f03df99", checked := Tryz.checked }
namespace Rows
def none {H : Type} : Left H := { results := [], args := [] }

/-- 'tollbarlaw26.Snaps': WHATEVER THE INPUT: true; the input reads as it did. -/
def snapsSpec : ChangeSpec := { name := "snaps", fn := fun _ => fun
  | [d1, d2, d3, d4] => { results := [.lit (.bool true)], args := [d1, d2, d3, d4] }
  | _ => none }
def snapsRow : OpenClaim := { program := "ytkflbkcfabnomaagreat", sum := "0ea4942f1c142a3d738ec85f2afb8a85b662dedd408075dbcb7dc82a1f03df99", func := "tollbar/tollbarlaw26.Snaps", spec := "snaps", unfollowed := true, recurses := true, apart := false }
def SnapsSaid : Prop := snapsRow.holds Tryz.pinned (OpenSpec.ofChange snapsSpec)

/-- ITS FALSE NEIGHBOUR: 'it returns false'. Refute it at one input. -/
def snapsWrong : ChangeSpec := { name := "snaps", fn := fun _ => fun
  | [d1, d2, d3, d4] => { results := [.lit (.bool false)], args := [d1, d2, d3, d4] }
  | _ => none }
def SnapsWrongFalsely : Prop := snapsRow.holds Tryz.pinned (OpenSpec.ofChange snapsWrong)

/-- 'tollbarlaw26.PlanSteps': WHATEVER THE INPUT: true; the input reads as it did. -/
def planStepsSpec : ChangeSpec := { name := "planSteps", fn := fun _ => fun
  | [d1, d2] => { results := [.lit (.bool true)], args := [d1, d2] }
  | _ => none }
def planStepsRow : OpenClaim := { program := "ytkflbkcfabnomaagreat", sum := "0ea4942f1c142a3d738ec85f2afb8a85b662dedd408075dbcb7dc82a1f03df99", func := "tollbar/tollbarlaw26.PlanSteps", spec := "planSteps", unfollowed := true, recurses := true, apart := false }
def PlanStepsSaid : Prop := planStepsRow.holds Tryz.pinned (OpenSpec.ofChange planStepsSpec)

/-- ITS FALSE NEIGHBOUR: 'it returns false'. Refute it at one input. -/
def planStepsWrong : ChangeSpec := { name := "planSteps", fn := fun _ => fun
  | [d1, d2] => { results := [.lit (.bool false)], args := [d1, d2] }
  | _ => none }
def PlanStepsWrongFalsely : Prop := planStepsRow.holds Tryz.pinned (OpenSpec.ofChange planStepsWrong)

/-- 'tollbarlaw26.PlanFresh': WHATEVER THE INPUT: true; the input reads as it did. -/
def planFreshSpec : ChangeSpec := { name := "planFresh", fn := fun _ => fun
  | [d1, d2, d3] => { results := [.lit (.bool true)], args := [d1, d2, d3] }
  | _ => none }
def planFreshRow : OpenClaim := { program := "ytkflbkcfabnomaagreat", sum := "0ea4942f1c142a3d738ec85f2afb8a85b662dedd408075dbcb7dc82a1f03df99", func := "tollbar/tollbarlaw26.PlanFresh", spec := "planFresh", unfollowed := true, recurses := true, apart := false }
def PlanFreshSaid : Prop := planFreshRow.holds Tryz.pinned (OpenSpec.ofChange planFreshSpec)

/-- ITS FALSE NEIGHBOUR: 'it returns false'. Refute it at one input. -/
def planFreshWrong : ChangeSpec := { name := "planFresh", fn := fun _ => fun
  | [d1, d2, d3] => { results := [.lit (.bool false)], args := [d1, d2, d3] }
  | _ => none }
def PlanFreshWrongFalsely : Prop := planFreshRow.holds Tryz.pinned (OpenSpec.ofChange planFreshWrong)

/-- 'tollbarlaw26.PlanForms': WHATEVER THE INPUT: true; the input reads as it did. -/
def planFormsSpec : ChangeSpec := { name := "planForms", fn := fun _ => fun
  | [d] => { results := [.lit (.bool true)], args := [d] }
  | _ => none }
def planFormsRow : OpenClaim := { program := "ytkflbkcfabnomaagreat", sum := "0ea4942f1c142a3d738ec85f2afb8a85b662dedd408075dbcb7dc82a1f03df99", func := "tollbar/tollbarlaw26.PlanForms", spec := "planForms", unfollowed := true, recurses := true, apart := false }
def PlanFormsSaid : Prop := planFormsRow.holds Tryz.pinned (OpenSpec.ofChange planFormsSpec)

/-- ITS FALSE NEIGHBOUR: 'it returns false'. Refute it at one input. -/
def planFormsWrong : ChangeSpec := { name := "planForms", fn := fun _ => fun
  | [d] => { results := [.lit (.bool false)], args := [d] }
  | _ => none }
def PlanFormsWrongFalsely : Prop := planFormsRow.holds Tryz.pinned (OpenSpec.ofChange planFormsWrong)

/-- 'tollbarlaw26.PlanStale': WHATEVER THE INPUT: true; the input reads as it did. -/
def planStaleSpec : ChangeSpec := { name := "planStale", fn := fun _ => fun
  | [d1, d2, d3, d4, d5] => { results := [.lit (.bool true)], args := [d1, d2, d3, d4, d5] }
  | _ => none }
def planStaleRow : OpenClaim := { program := "ytkflbkcfabnomaagreat", sum := "0ea4942f1c142a3d738ec85f2afb8a85b662dedd408075dbcb7dc82a1f03df99", func := "tollbar/tollbarlaw26.PlanStale", spec := "planStale", unfollowed := true, recurses := true, apart := false }
def PlanStaleSaid : Prop := planStaleRow.holds Tryz.pinned (OpenSpec.ofChange planStaleSpec)

/-- ITS FALSE NEIGHBOUR: 'it returns false'. Refute it at one input. -/
def planStaleWrong : ChangeSpec := { name := "planStale", fn := fun _ => fun
  | [d1, d2, d3, d4, d5] => { results := [.lit (.bool false)], args := [d1, d2, d3, d4, d5] }
  | _ => none }
def PlanStaleWrongFalsely : Prop := planStaleRow.holds Tryz.pinned (OpenSpec.ofChange planStaleWrong)

/-- 'tollbarlaw20.Looks': WHATEVER THE INPUT: true; the input reads as it did. -/
def looksSpec : ChangeSpec := { name := "looks", fn := fun _ => fun
  | [d1, d2, d3] => { results := [.lit (.bool true)], args := [d1, d2, d3] }
  | _ => none }
def looksRow : OpenClaim := { program := "ytkflbkcfabnomaagreat", sum := "0ea4942f1c142a3d738ec85f2afb8a85b662dedd408075dbcb7dc82a1f03df99", func := "tollbar/tollbarlaw20.Looks", spec := "looks", unfollowed := true, recurses := true, apart := false }
def LooksSaid : Prop := looksRow.holds Tryz.pinned (OpenSpec.ofChange looksSpec)

/-- ITS FALSE NEIGHBOUR: 'it returns false'. Refute it at one input. -/
def looksWrong : ChangeSpec := { name := "looks", fn := fun _ => fun
  | [d1, d2, d3] => { results := [.lit (.bool false)], args := [d1, d2, d3] }
  | _ => none }
def LooksWrongFalsely : Prop := looksRow.holds Tryz.pinned (OpenSpec.ofChange looksWrong)

/-- 'tollbarlaw20.CalendarOwn': WHATEVER THE INPUT: true; the input reads as it did. -/
def calendarOwnSpec : ChangeSpec := { name := "calendarOwn", fn := fun _ => fun
  | [d1, d2, d3, d4] => { results := [.lit (.bool true)], args := [d1, d2, d3, d4] }
  | _ => none }
def calendarOwnRow : OpenClaim := { program := "ytkflbkcfabnomaagreat", sum := "0ea4942f1c142a3d738ec85f2afb8a85b662dedd408075dbcb7dc82a1f03df99", func := "tollbar/tollbarlaw20.CalendarOwn", spec := "calendarOwn", unfollowed := true, recurses := true, apart := false }
def CalendarOwnSaid : Prop := calendarOwnRow.holds Tryz.pinned (OpenSpec.ofChange calendarOwnSpec)

/-- ITS FALSE NEIGHBOUR: 'it returns false'. Refute it at one input. -/
def calendarOwnWrong : ChangeSpec := { name := "calendarOwn", fn := fun _ => fun
  | [d1, d2, d3, d4] => { results := [.lit (.bool false)], args := [d1, d2, d3, d4] }
  | _ => none }
def CalendarOwnWrongFalsely : Prop := calendarOwnRow.holds Tryz.pinned (OpenSpec.ofChange calendarOwnWrong)

/-- 'tollbarlaw26.PlanRuns': WHATEVER THE INPUT: true; the input reads as it did. -/
def planRunsSpec : ChangeSpec := { name := "planRuns", fn := fun _ => fun
  | [d1, d2, d3] => { results := [.lit (.bool true)], args := [d1, d2, d3] }
  | _ => none }
def planRunsRow : OpenClaim := { program := "ytkflbkcfabnomaagreat", sum := "0ea4942f1c142a3d738ec85f2afb8a85b662dedd408075dbcb7dc82a1f03df99", func := "tollbar/tollbarlaw26.PlanRuns", spec := "planRuns", unfollowed := true, recurses := true, apart := false }
def PlanRunsSaid : Prop := planRunsRow.holds Tryz.pinned (OpenSpec.ofChange planRunsSpec)

/-- ITS FALSE NEIGHBOUR: 'it returns false'. Refute it at one input. -/
def planRunsWrong : ChangeSpec := { name := "planRuns", fn := fun _ => fun
  | [d1, d2, d3] => { results := [.lit (.bool false)], args := [d1, d2, d3] }
  | _ => none }
def PlanRunsWrongFalsely : Prop := planRunsRow.holds Tryz.pinned (OpenSpec.ofChange planRunsWrong)

/- THE SECOND FORM. 'bulk': how many values and letters a reading holds, each counted each time it is reached (what is shared counts as often as it is met; a slice's spare places count too). A statement '..UptoSaid' is the law's where the arguments, and the package variables that the reading takes, are together of bulk at most 1048576: NARROWER than '..Said'. Prove '..Said' where nothing that the law and all that it calls make is longer than what came in: it says more and counts as full. Else prove '..UptoSaid'. A law counts once. -/
mutual
def uptoBulk {H : Type} : DataW H → Nat
  | .lit (.string bytes) => bytes.length + 1
  | .lit _ => 1
  | .nil => 1
  | .ptr d => uptoBulk d + 1
  | .slice elems spare => uptoBulkAll elems + uptoBulkAll spare + 1
  | .agg parts => uptoBulkAll parts + 1
  | .iface _ d => uptoBulk d + 1
  | .map entries => uptoBulkEntries entries + 1
  | .held _ => 1
def uptoBulkAll {H : Type} : List (DataW H) → Nat
  | [] => 0
  | d :: r => uptoBulk d + uptoBulkAll r
def uptoBulkEntries {H : Type} : List (Lit × DataW H) → Nat
  | [] => 0
  | x :: r => uptoBulkEntry x + uptoBulkEntries r
def uptoBulkEntry {H : Type} : Lit × DataW H → Nat
  | (.string bytes, d) => bytes.length + uptoBulk d + 1
  | (_, d) => uptoBulk d + 1
 end
def uptoSmall : (H : Type) → List (DataW H) → Bool := fun _ ds => decide (uptoBulkAll ds ≤ 1048576)
def OpenSpec.upto (s : _root_.Go.ChangeSpec) : _root_.Go.OpenSpec := { _root_.Go.OpenSpec.ofChange s with cond := some uptoSmall }

/-- 'tollbarlaw26.Snaps', WHERE WHAT IT READS IS OF BULK AT MOST 1048576: true; the input reads as it did. -/
def snapsUptoRow : OpenClaim := { program := "ytkflbkcfabnomaagreat", sum := "0ea4942f1c142a3d738ec85f2afb8a85b662dedd408075dbcb7dc82a1f03df99", func := "tollbar/tollbarlaw26.Snaps", spec := "snaps", unfollowed := true, recurses := true, apart := false, narrowed := true }
def SnapsUptoSaid : Prop := snapsUptoRow.holds Tryz.pinned (OpenSpec.upto snapsSpec)

/-- 'tollbarlaw26.PlanSteps', WHERE WHAT IT READS IS OF BULK AT MOST 1048576: true; the input reads as it did. -/
def planStepsUptoRow : OpenClaim := { program := "ytkflbkcfabnomaagreat", sum := "0ea4942f1c142a3d738ec85f2afb8a85b662dedd408075dbcb7dc82a1f03df99", func := "tollbar/tollbarlaw26.PlanSteps", spec := "planSteps", unfollowed := true, recurses := true, apart := false, narrowed := true }
def PlanStepsUptoSaid : Prop := planStepsUptoRow.holds Tryz.pinned (OpenSpec.upto planStepsSpec)

/-- 'tollbarlaw26.PlanFresh', WHERE WHAT IT READS IS OF BULK AT MOST 1048576: true; the input reads as it did. -/
def planFreshUptoRow : OpenClaim := { program := "ytkflbkcfabnomaagreat", sum := "0ea4942f1c142a3d738ec85f2afb8a85b662dedd408075dbcb7dc82a1f03df99", func := "tollbar/tollbarlaw26.PlanFresh", spec := "planFresh", unfollowed := true, recurses := true, apart := false, narrowed := true }
def PlanFreshUptoSaid : Prop := planFreshUptoRow.holds Tryz.pinned (OpenSpec.upto planFreshSpec)

/-- 'tollbarlaw26.PlanForms', WHERE WHAT IT READS IS OF BULK AT MOST 1048576: true; the input reads as it did. -/
def planFormsUptoRow : OpenClaim := { program := "ytkflbkcfabnomaagreat", sum := "0ea4942f1c142a3d738ec85f2afb8a85b662dedd408075dbcb7dc82a1f03df99", func := "tollbar/tollbarlaw26.PlanForms", spec := "planForms", unfollowed := true, recurses := true, apart := false, narrowed := true }
def PlanFormsUptoSaid : Prop := planFormsUptoRow.holds Tryz.pinned (OpenSpec.upto planFormsSpec)

/-- 'tollbarlaw26.PlanStale', WHERE WHAT IT READS IS OF BULK AT MOST 1048576: true; the input reads as it did. -/
def planStaleUptoRow : OpenClaim := { program := "ytkflbkcfabnomaagreat", sum := "0ea4942f1c142a3d738ec85f2afb8a85b662dedd408075dbcb7dc82a1f03df99", func := "tollbar/tollbarlaw26.PlanStale", spec := "planStale", unfollowed := true, recurses := true, apart := false, narrowed := true }
def PlanStaleUptoSaid : Prop := planStaleUptoRow.holds Tryz.pinned (OpenSpec.upto planStaleSpec)

/-- 'tollbarlaw20.Looks', WHERE WHAT IT READS IS OF BULK AT MOST 1048576: true; the input reads as it did. -/
def looksUptoRow : OpenClaim := { program := "ytkflbkcfabnomaagreat", sum := "0ea4942f1c142a3d738ec85f2afb8a85b662dedd408075dbcb7dc82a1f03df99", func := "tollbar/tollbarlaw20.Looks", spec := "looks", unfollowed := true, recurses := true, apart := false, narrowed := true }
def LooksUptoSaid : Prop := looksUptoRow.holds Tryz.pinned (OpenSpec.upto looksSpec)

/-- 'tollbarlaw20.CalendarOwn', WHERE WHAT IT READS IS OF BULK AT MOST 1048576: true; the input reads as it did. -/
def calendarOwnUptoRow : OpenClaim := { program := "ytkflbkcfabnomaagreat", sum := "0ea4942f1c142a3d738ec85f2afb8a85b662dedd408075dbcb7dc82a1f03df99", func := "tollbar/tollbarlaw20.CalendarOwn", spec := "calendarOwn", unfollowed := true, recurses := true, apart := false, narrowed := true }
def CalendarOwnUptoSaid : Prop := calendarOwnUptoRow.holds Tryz.pinned (OpenSpec.upto calendarOwnSpec)

/-- 'tollbarlaw26.PlanRuns', WHERE WHAT IT READS IS OF BULK AT MOST 1048576: true; the input reads as it did. -/
def planRunsUptoRow : OpenClaim := { program := "ytkflbkcfabnomaagreat", sum := "0ea4942f1c142a3d738ec85f2afb8a85b662dedd408075dbcb7dc82a1f03df99", func := "tollbar/tollbarlaw26.PlanRuns", spec := "planRuns", unfollowed := true, recurses := true, apart := false, narrowed := true }
def PlanRunsUptoSaid : Prop := planRunsUptoRow.holds Tryz.pinned (OpenSpec.upto planRunsSpec)

end Rows
end Go.Proofs.YtkflbkcfabnomaaGreat
