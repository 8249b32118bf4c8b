/-
Facts of the program, which all rows ask.
-/
import Derived.Test.YtiboikgoaihccaaRows
import Derived.WalkKit
import Derived.ProofKit
namespace Go.Proofs.Ytiboikgoaihccaa.R

theorem own : ownKnob Try.prog.godebug = none := by kernel_rfl
theorem laidOut : laidOutB Try.prog = true := by kernel_rfl
theorem rowed : mapsRowed Try.prog = true := by kernel_rfl
theorem heard : Try.prog.stopsHeard = true := by kernel_rfl
theorem enters : Try.prog.mayEnter = true := by kernel_rfl
theorem lifts : Try.prog.liftsFinal = false := by kernel_rfl
theorem makes : Try.prog.make = some .cut := by kernel_rfl
theorem andT {a b : Bool} (h1 : a = true) (h2 : b = true) : (a && b) = true := by rw [h1, h2]; rfl
theorem eqB {a b : Bool} (h : b = a) : (a == b) = true := by subst h; cases b <;> rfl

end Go.Proofs.Ytiboikgoaihccaa.R
