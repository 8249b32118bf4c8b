/-
Functions of pure data, known by their evaluation: for runs on closed data. Printed by program.
-/
import Derived.Test.YtiboikgoaihccaaProg
import Derived.Test.YtiboikgoaihccaaRC
import Derived.Test.YtiboikgoaihccaaTt
import Derived.Test.YtiboikgoaihccaaG3
import Derived.Test.YtiboikgoaihccaaC90
import Derived.KernelRfl
namespace Go.Proofs.Ytiboikgoaihccaa.R
set_option maxRecDepth 100000
set_option linter.unusedVariables false
/-! 123: block.Block -/
noncomputable def f123.E (k : Nat) : Env := mkEnv tt [(78, S78), (98, S98), (124, S124), (125, S125), (132, S132), (134, S134), (136, S136), (139, S139)] [(133, Try.f133), (135, Try.f135), (158, Try.f158), (170, Try.f170)] [(123, 7, [.kill (rg [(0, 0), (2, 2), (7, 18), (21, 97)]), .tidy]), (123, 11, [.drop 62]), (133, 3, [.kill (rg [(1, 1), (3, 6), (9, 72)]), .tidy]), (133, 8, [.drop 62]), (135, 3, [.kill (rg [(1, 4), (6, 7), (11, 28)]), .tidy]), (158, 1, [.kill (rg [(2, 51)]), .tidy])] [(133, 4096, (rg [(0, 0), (2, 2), (7, 18), (21, 63), (65, 97)])), (158, 263872, (rg [(1, 1), (3, 6), (9, 26), (28, 72)])), (135, 4672, (rg [(0, 0), (2, 2), (7, 18), (22, 69), (71, 72), (74, 97)]))] k
noncomputable def f123.code : Go.Code := (Go.Func.body Try.f123).getD .skip
theorem f123.inl (k : Nat) : InlOk Try.prog (f123.E k) := (inl_cons (by kernel_rfl) (by kernel_rfl) (inl_cons (by kernel_rfl) (by kernel_rfl) (inl_cons (by kernel_rfl) (by kernel_rfl) (inl_cons (by kernel_rfl) (by kernel_rfl) inl_nil))))
theorem f123.sums (k : Nat) : SumsOk Try.prog (f123.E k) := (sums_cons ok78 (sums_cons ok98 (sums_cons ok124 (sums_cons ok125 (sums_cons ok132 (sums_cons ok134 (sums_cons ok136 (sums_cons ok139 sums_nil))))))))
theorem f123.at0 : evFn (f123.E 40) 9 123 Try.f123 (encL [tG, tL, tL, tI, tI, tI] (((3, [(0, 1, 5), (1, 2, 4), (0, 2, 3)]), [5, 4, 3], [0, 0, 0], 0, 2, 7) : Gr × (List Int × (List Int × (Int × (Int × Int)))))) = some (.tup [.own tI [0, 0, 3], .int .i64 3, .int .i64 0]) := by kernel_rfl
theorem f123.at1 : evFn (f123.E 40) 9 123 Try.f123 (encL [tG, tL, tL, tI, tI, tI] (((3, [(0, 1, 5), (1, 2, 4), (0, 2, 3)]), [5, 4, 3], [0, 0, 0], 0, 2, 8) : Gr × (List Int × (List Int × (Int × (Int × Int)))))) = some (.tup [.own tI [0, 0, 3], .int .i64 3, .int .i64 0]) := by kernel_rfl
theorem f123.at2 : evFn (f123.E 40) 9 123 Try.f123 (encL [tG, tL, tL, tI, tI, tI] (((3, [(0, 1, 5), (1, 2, 4), (0, 2, 3)]), [5, 4, 3], [0, 0, 3], 0, 2, 4) : Gr × (List Int × (List Int × (Int × (Int × Int)))))) = some (.tup [.own tI [4, 4, 3], .int .i64 4, .int .i64 0]) := by kernel_rfl
theorem f123.at3 : evFn (f123.E 40) 9 123 Try.f123 (encL [tG, tL, tL, tI, tI, tI] (((3, [(0, 1, 5), (1, 2, 4), (0, 2, 3)]), [5, 4, 3], [0, 0, 3], 0, 2, 5) : Gr × (List Int × (List Int × (Int × (Int × Int)))))) = some (.tup [.own tI [4, 4, 3], .int .i64 4, .int .i64 0]) := by kernel_rfl
theorem f123.at4 : evFn (f123.E 40) 9 123 Try.f123 (encL [tG, tL, tL, tI, tI, tI] (((3, [(0, 1, 5), (1, 2, 4), (0, 2, 3)]), [5, 4, 3], [4, 4, 3], 0, 2, 1) : Gr × (List Int × (List Int × (Int × (Int × Int)))))) = some (.tup [.own tI [4, 4, 3], .int .i64 0, .int .i64 0]) := by kernel_rfl
def t123 : List ((Gr × (List Int × (List Int × (Int × (Int × Int))))) × V) := [(((3, [(0, 1, 5), (1, 2, 4), (0, 2, 3)]), [5, 4, 3], [0, 0, 0], 0, 2, 7), .tup [.own tI [0, 0, 3], .int .i64 3, .int .i64 0]),
  (((3, [(0, 1, 5), (1, 2, 4), (0, 2, 3)]), [5, 4, 3], [0, 0, 0], 0, 2, 8), .tup [.own tI [0, 0, 3], .int .i64 3, .int .i64 0]),
  (((3, [(0, 1, 5), (1, 2, 4), (0, 2, 3)]), [5, 4, 3], [0, 0, 3], 0, 2, 4), .tup [.own tI [4, 4, 3], .int .i64 4, .int .i64 0]),
  (((3, [(0, 1, 5), (1, 2, 4), (0, 2, 3)]), [5, 4, 3], [0, 0, 3], 0, 2, 5), .tup [.own tI [4, 4, 3], .int .i64 4, .int .i64 0]),
  (((3, [(0, 1, 5), (1, 2, 4), (0, 2, 3)]), [5, 4, 3], [4, 4, 3], 0, 2, 1), .tup [.own tI [4, 4, 3], .int .i64 0, .int .i64 0])]
noncomputable def S123 : Summ := summ [tG, tL, tL, tI, tI, tI] V (fun (d : Gr × (List Int × (List Int × (Int × (Int × Int))))) => tabS t123 d) (fun v => v)
theorem ok123 : SumOk Try.prog 123 S123 :=
  sum_k hmix f123.E (fn := Try.f123) (code := f123.code) (by kernel_rfl) (by kernel_rfl) (by kernel_rfl) (fun _ => ttOk) f123.sums f123.inl fun (d : Gr × (List Int × (List Int × (Int × (Int × Int))))) x hx => ⟨40, tab_all (P := fun (d : Gr × (List Int × (List Int × (Int × (Int × Int))))) x => evFn (f123.E 40) 9 123 Try.f123 (encL [tG, tL, tL, tI, tI, tI] d) = some x) (tab := t123) ⟨f123.at0, f123.at1, f123.at2, f123.at3, f123.at4, trivial⟩ hx⟩
end Go.Proofs.Ytiboikgoaihccaa.R
