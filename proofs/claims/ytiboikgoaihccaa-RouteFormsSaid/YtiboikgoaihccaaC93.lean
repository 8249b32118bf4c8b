/-
Functions of pure data, known by their evaluation: for runs on closed data. Printed by program.
-/
import Derived.Test.YtiboikgoaihccaaProg
import Derived.Test.YtiboikgoaihccaaRC
import Derived.Test.YtiboikgoaihccaaTt
import Derived.Test.YtiboikgoaihccaaG3
import Derived.Test.YtiboikgoaihccaaC91
import Derived.Test.YtiboikgoaihccaaC92
import Derived.KernelRfl
namespace Go.Proofs.Ytiboikgoaihccaa.R
set_option maxRecDepth 100000
set_option linter.unusedVariables false
/-! 99: push.Push -/
noncomputable def f99.E (k : Nat) : Env := mkEnv tt [(92, S92), (95, S95), (98, S98), (123, S123)] [] [(99, 4, [.kill (rg [(0, 0), (6, 12), (15, 74)]), .tidy])] [] k
noncomputable def f99.code : Go.Code := (Go.Func.body Try.f99).getD .skip
theorem f99.inl (k : Nat) : InlOk Try.prog (f99.E k) := inl_nil
theorem f99.sums (k : Nat) : SumsOk Try.prog (f99.E k) := (sums_cons ok92 (sums_cons ok95 (sums_cons ok98 (sums_cons ok123 sums_nil))))
theorem f99.at0 : evFn (f99.E 40) 9 99 Try.f99 (encL [tG, tL, tI, tI, tI] (((3, [(0, 1, 5), (1, 2, 4), (0, 2, 3)]), [5, 4, 3], 0, 2, 7) : Gr × (List Int × (Int × (Int × Int))))) = some (.tup [.own tI [4, 4, 3], .int .i64 7, .int .i64 0]) := by kernel_rfl
theorem f99.at1 : evFn (f99.E 40) 9 99 Try.f99 (encL [tG, tL, tI, tI, tI] (((3, [(0, 1, 5), (1, 2, 4), (0, 2, 3)]), [5, 4, 3], 0, 2, 8) : Gr × (List Int × (Int × (Int × Int))))) = some (.tup [.own tI [4, 4, 3], .int .i64 7, .int .i64 0]) := by kernel_rfl
def t99 : List ((Gr × (List Int × (Int × (Int × Int)))) × V) := [(((3, [(0, 1, 5), (1, 2, 4), (0, 2, 3)]), [5, 4, 3], 0, 2, 7), .tup [.own tI [4, 4, 3], .int .i64 7, .int .i64 0]),
  (((3, [(0, 1, 5), (1, 2, 4), (0, 2, 3)]), [5, 4, 3], 0, 2, 8), .tup [.own tI [4, 4, 3], .int .i64 7, .int .i64 0])]
noncomputable def S99 : Summ := summ [tG, tL, tI, tI, tI] V (fun (d : Gr × (List Int × (Int × (Int × Int)))) => tabS t99 d) (fun v => v)
theorem ok99 : SumOk Try.prog 99 S99 :=
  sum_k hmix f99.E (fn := Try.f99) (code := f99.code) (by kernel_rfl) (by kernel_rfl) (by kernel_rfl) (fun _ => ttOk) f99.sums f99.inl fun (d : Gr × (List Int × (Int × (Int × Int)))) x hx => ⟨40, tab_all (P := fun (d : Gr × (List Int × (Int × (Int × Int)))) x => evFn (f99.E 40) 9 99 Try.f99 (encL [tG, tL, tI, tI, tI] d) = some x) (tab := t99) ⟨f99.at0, f99.at1, trivial⟩ hx⟩
end Go.Proofs.Ytiboikgoaihccaa.R
