/-
Functions of pure data, known by their evaluation: for runs on closed data. Printed by program.
-/
import Derived.Test.YtiboikgoaihccaaProg
import Derived.Test.YtiboikgoaihccaaRC
import Derived.Test.YtiboikgoaihccaaTt
import Derived.Test.YtiboikgoaihccaaG3
import Derived.Test.YtiboikgoaihccaaS36
import Derived.Test.YtiboikgoaihccaaS31
import Derived.KernelRfl
namespace Go.Proofs.Ytiboikgoaihccaa.R
set_option maxRecDepth 100000
set_option linter.unusedVariables false
/-! 156: arcs.Ends -/
noncomputable def f156.E (k : Nat) : Env := mkEnv tt [] [] [] [] k
noncomputable def f156.code : Go.Code := (Go.Func.body Try.f156).getD .skip
theorem f156.inl (k : Nat) : InlOk Try.prog (f156.E k) := inl_nil
theorem f156.sums (k : Nat) : SumsOk Try.prog (f156.E k) := sums_nil
noncomputable def S156 : Summ := summ [tG, tI] V (fun d => evFn (f156.E 40) 9 156 Try.f156 (encL [tG, tI] d)) (fun v => v)
theorem ok156 : SumOk Try.prog 156 S156 :=
  sum_k hmix f156.E (fn := Try.f156) (code := f156.code) (by kernel_rfl) (by kernel_rfl) (by kernel_rfl) (fun _ => ttOk) f156.sums f156.inl fun d x hx => ⟨40, hx⟩
/-! 157: arcs.row -/
noncomputable def f157.E (k : Nat) : Env := mkEnv tt [(156, S156)] [] [(157, 3, [.kill (rg [(0, 0), (3, 4), (6, 11), (14, 30)]), .tidy])] [] k
noncomputable def f157.code : Go.Code := (Go.Func.body Try.f157).getD .skip
theorem f157.inl (k : Nat) : InlOk Try.prog (f157.E k) := inl_nil
theorem f157.sums (k : Nat) : SumsOk Try.prog (f157.E k) := (sums_cons ok156 sums_nil)
noncomputable def S157 : Summ := summ [tG, tI] V (fun d => evFn (f157.E 40) 9 157 Try.f157 (encL [tG, tI] d)) (fun v => v)
theorem ok157 : SumOk Try.prog 157 S157 :=
  sum_k hmix f157.E (fn := Try.f157) (code := f157.code) (by kernel_rfl) (by kernel_rfl) (by kernel_rfl) (fun _ => ttOk) f157.sums f157.inl fun d x hx => ⟨40, hx⟩
/-! 132: arcs.Build -/
noncomputable def f132.E (k : Nat) : Env := mkEnv tt [(104, S104), (156, S156), (157, S157)] [] [(132, 11, [.kill (rg [(0, 0), (3, 3), (5, 33), (36, 62)]), .tidy]), (132, 5, [.kill (rg [(0, 0), (3, 3), (5, 15), (18, 62)]), .tidy])] [] k
noncomputable def f132.code : Go.Code := (Go.Func.body Try.f132).getD .skip
theorem f132.inl (k : Nat) : InlOk Try.prog (f132.E k) := inl_nil
theorem f132.sums (k : Nat) : SumsOk Try.prog (f132.E k) := (sums_cons ok104 (sums_cons ok156 (sums_cons ok157 sums_nil)))
theorem f132.at0 : evFn (f132.E 40) 9 132 Try.f132 (encL [tG] ((3, [(0, 1, 5), (1, 2, 4), (0, 2, 3)]) : Gr)) = some (.tup [.agg [.own tI [0, 2, 4, 6], .own tI [0, 4, 1, 2, 3, 5], .own tI [1, 0, 2, 1, 2, 0]], .int .i64 0]) := by kernel_rfl
def t132 : List ((Gr) × V) := [((3, [(0, 1, 5), (1, 2, 4), (0, 2, 3)]), .tup [.agg [.own tI [0, 2, 4, 6], .own tI [0, 4, 1, 2, 3, 5], .own tI [1, 0, 2, 1, 2, 0]], .int .i64 0])]
noncomputable def S132 : Summ := summ [tG] V (fun (d : Gr) => tabS t132 d) (fun v => v)
theorem ok132 : SumOk Try.prog 132 S132 :=
  sum_k hmix f132.E (fn := Try.f132) (code := f132.code) (by kernel_rfl) (by kernel_rfl) (by kernel_rfl) (fun _ => ttOk) f132.sums f132.inl fun (d : Gr) x hx => ⟨40, tab_all (P := fun (d : Gr) x => evFn (f132.E 40) 9 132 Try.f132 (encL [tG] d) = some x) (tab := t132) ⟨f132.at0, trivial⟩ hx⟩
/-! 137: stream.Lies -/
noncomputable def f137.E (k : Nat) : Env := mkEnv tt [(95, S95)] [] [(137, 4, [.kill (rg [(0, 0), (2, 19), (23, 37)]), .tidy])] [] k
noncomputable def f137.code : Go.Code := (Go.Func.body Try.f137).getD .skip
theorem f137.inl (k : Nat) : InlOk Try.prog (f137.E k) := inl_nil
theorem f137.sums (k : Nat) : SumsOk Try.prog (f137.E k) := (sums_cons ok95 sums_nil)
theorem f137.at0 : evFn (f137.E 40) 9 137 Try.f137 (encL [tG, tL, tL] (((3, [(0, 1, 5), (1, 2, 4), (0, 2, 3)]), [5, 4, 3], [0, 0, 0]) : Gr × (List Int × List Int))) = some (.bool true) := by kernel_rfl
theorem f137.at1 : evFn (f137.E 40) 9 137 Try.f137 (encL [tG, tL, tL] (((3, [(0, 1, 5), (1, 2, 4), (0, 2, 3)]), [5, 4, 3], [0, 0, 3]) : Gr × (List Int × List Int))) = some (.bool true) := by kernel_rfl
theorem f137.at2 : evFn (f137.E 40) 9 137 Try.f137 (encL [tG, tL, tL] (((3, [(0, 1, 5), (1, 2, 4), (0, 2, 3)]), [5, 4, 3], [4, 4, 3]) : Gr × (List Int × List Int))) = some (.bool true) := by kernel_rfl
theorem f137.at3 : evFn (f137.E 40) 9 137 Try.f137 (encL [tG, tL, tL] (((3, [(0, 1, 5), (1, 2, 4), (0, 2, 3)]), [4, 4, 3], [4, 4, 3]) : Gr × (List Int × List Int))) = some (.bool true) := by kernel_rfl
def t137 : List ((Gr × (List Int × List Int)) × V) := [(((3, [(0, 1, 5), (1, 2, 4), (0, 2, 3)]), [5, 4, 3], [0, 0, 0]), .bool true),
  (((3, [(0, 1, 5), (1, 2, 4), (0, 2, 3)]), [5, 4, 3], [0, 0, 3]), .bool true),
  (((3, [(0, 1, 5), (1, 2, 4), (0, 2, 3)]), [5, 4, 3], [4, 4, 3]), .bool true),
  (((3, [(0, 1, 5), (1, 2, 4), (0, 2, 3)]), [4, 4, 3], [4, 4, 3]), .bool true)]
noncomputable def S137 : Summ := summ [tG, tL, tL] V (fun (d : Gr × (List Int × List Int)) => tabS t137 d) (fun v => v)
theorem ok137 : SumOk Try.prog 137 S137 :=
  sum_k hmix f137.E (fn := Try.f137) (code := f137.code) (by kernel_rfl) (by kernel_rfl) (by kernel_rfl) (fun _ => ttOk) f137.sums f137.inl fun (d : Gr × (List Int × List Int)) x hx => ⟨40, tab_all (P := fun (d : Gr × (List Int × List Int)) x => evFn (f137.E 40) 9 137 Try.f137 (encL [tG, tL, tL] d) = some x) (tab := t137) ⟨f137.at0, f137.at1, f137.at2, f137.at3, trivial⟩ hx⟩
/-! 140: stream.gains -/
noncomputable def f140.E (k : Nat) : Env := mkEnv tt [] [] [(140, 3, [.kill (rg [(0, 0), (2, 4), (6, 11), (15, 42)]), .tidy])] [] k
noncomputable def f140.code : Go.Code := (Go.Func.body Try.f140).getD .skip
theorem f140.inl (k : Nat) : InlOk Try.prog (f140.E k) := inl_nil
theorem f140.sums (k : Nat) : SumsOk Try.prog (f140.E k) := sums_nil
theorem f140.at0 : evFn (f140.E 40) 9 140 Try.f140 (encL [tG, tL] (((3, [(0, 1, 5), (1, 2, 4), (0, 2, 3)]), [0, 0, 0]) : Gr × List Int)) = some (.own tI [0, 0, 0]) := by kernel_rfl
theorem f140.at1 : evFn (f140.E 40) 9 140 Try.f140 (encL [tG, tL] (((3, [(0, 1, 5), (1, 2, 4), (0, 2, 3)]), [0, 0, 3]) : Gr × List Int)) = some (.own tI [3, 0, -3]) := by kernel_rfl
theorem f140.at2 : evFn (f140.E 40) 9 140 Try.f140 (encL [tG, tL] (((3, [(0, 1, 5), (1, 2, 4), (0, 2, 3)]), [4, 4, 3]) : Gr × List Int)) = some (.own tI [7, 0, -7]) := by kernel_rfl
def t140 : List ((Gr × List Int) × V) := [(((3, [(0, 1, 5), (1, 2, 4), (0, 2, 3)]), [0, 0, 0]), .own tI [0, 0, 0]),
  (((3, [(0, 1, 5), (1, 2, 4), (0, 2, 3)]), [0, 0, 3]), .own tI [3, 0, -3]),
  (((3, [(0, 1, 5), (1, 2, 4), (0, 2, 3)]), [4, 4, 3]), .own tI [7, 0, -7])]
noncomputable def S140 : Summ := summ [tG, tL] V (fun (d : Gr × List Int) => tabS t140 d) (fun v => v)
theorem ok140 : SumOk Try.prog 140 S140 :=
  sum_k hmix f140.E (fn := Try.f140) (code := f140.code) (by kernel_rfl) (by kernel_rfl) (by kernel_rfl) (fun _ => ttOk) f140.sums f140.inl fun (d : Gr × List Int) x hx => ⟨40, tab_all (P := fun (d : Gr × List Int) x => evFn (f140.E 40) 9 140 Try.f140 (encL [tG, tL] d) = some x) (tab := t140) ⟨f140.at0, f140.at1, f140.at2, trivial⟩ hx⟩
/-! 125: stream.May -/
noncomputable def f125.E (k : Nat) : Env := mkEnv tt [(92, S92), (137, S137), (140, S140)] [] [(125, 4, [.kill (rg [(0, 2), (5, 36), (40, 65)]), .tidy])] [] k
noncomputable def f125.code : Go.Code := (Go.Func.body Try.f125).getD .skip
theorem f125.inl (k : Nat) : InlOk Try.prog (f125.E k) := inl_nil
theorem f125.sums (k : Nat) : SumsOk Try.prog (f125.E k) := (sums_cons ok92 (sums_cons ok137 (sums_cons ok140 sums_nil)))
theorem f125.at0 : evFn (f125.E 40) 9 125 Try.f125 (encL [tG, tL, tL, tI, tI] (((3, [(0, 1, 5), (1, 2, 4), (0, 2, 3)]), [5, 4, 3], [0, 0, 0], 0, 2) : Gr × (List Int × (List Int × (Int × Int))))) = some (.bool true) := by kernel_rfl
theorem f125.at1 : evFn (f125.E 40) 9 125 Try.f125 (encL [tG, tL, tL, tI, tI] (((3, [(0, 1, 5), (1, 2, 4), (0, 2, 3)]), [5, 4, 3], [0, 0, 3], 0, 2) : Gr × (List Int × (List Int × (Int × Int))))) = some (.bool true) := by kernel_rfl
theorem f125.at2 : evFn (f125.E 40) 9 125 Try.f125 (encL [tG, tL, tL, tI, tI] (((3, [(0, 1, 5), (1, 2, 4), (0, 2, 3)]), [5, 4, 3], [4, 4, 3], 0, 2) : Gr × (List Int × (List Int × (Int × Int))))) = some (.bool true) := by kernel_rfl
theorem f125.at3 : evFn (f125.E 40) 9 125 Try.f125 (encL [tG, tL, tL, tI, tI] (((3, [(0, 1, 5), (1, 2, 4), (0, 2, 3)]), [4, 4, 3], [4, 4, 3], 0, 2) : Gr × (List Int × (List Int × (Int × Int))))) = some (.bool true) := by kernel_rfl
def t125 : List ((Gr × (List Int × (List Int × (Int × Int)))) × V) := [(((3, [(0, 1, 5), (1, 2, 4), (0, 2, 3)]), [5, 4, 3], [0, 0, 0], 0, 2), .bool true),
  (((3, [(0, 1, 5), (1, 2, 4), (0, 2, 3)]), [5, 4, 3], [0, 0, 3], 0, 2), .bool true),
  (((3, [(0, 1, 5), (1, 2, 4), (0, 2, 3)]), [5, 4, 3], [4, 4, 3], 0, 2), .bool true),
  (((3, [(0, 1, 5), (1, 2, 4), (0, 2, 3)]), [4, 4, 3], [4, 4, 3], 0, 2), .bool true)]
noncomputable def S125 : Summ := summ [tG, tL, tL, tI, tI] V (fun (d : Gr × (List Int × (List Int × (Int × Int)))) => tabS t125 d) (fun v => v)
theorem ok125 : SumOk Try.prog 125 S125 :=
  sum_k hmix f125.E (fn := Try.f125) (code := f125.code) (by kernel_rfl) (by kernel_rfl) (by kernel_rfl) (fun _ => ttOk) f125.sums f125.inl fun (d : Gr × (List Int × (List Int × (Int × Int)))) x hx => ⟨40, tab_all (P := fun (d : Gr × (List Int × (List Int × (Int × Int)))) x => evFn (f125.E 40) 9 125 Try.f125 (encL [tG, tL, tL, tI, tI] d) = some x) (tab := t125) ⟨f125.at0, f125.at1, f125.at2, f125.at3, trivial⟩ hx⟩
/-! 138: slices.Repeat -/
noncomputable def f138.E (k : Nat) : Env := mkEnv tt [] [(160, Try.f160), (171, Try.f171), (172, Try.f172)] [(138, 8, [.kill (rg [(0, 6), (9, 47)]), .tidy]), (138, 9, [.drop 62])] [] k
noncomputable def f138.code : Go.Code := (Go.Func.body Try.f138).getD .skip
theorem f138.inl (k : Nat) : InlOk Try.prog (f138.E k) := (inl_cons (by kernel_rfl) (by kernel_rfl) (inl_cons (by kernel_rfl) (by kernel_rfl) (inl_cons (by kernel_rfl) (by kernel_rfl) inl_nil)))
theorem f138.sums (k : Nat) : SumsOk Try.prog (f138.E k) := sums_nil
theorem f138.at0 : evFn (f138.E 40) 9 138 Try.f138 (encL [tL, tI] (([-1], 3) : List Int × Int)) = some (.own tI [-1, -1, -1]) := by kernel_rfl
def t138 : List ((List Int × Int) × V) := [(([-1], 3), .own tI [-1, -1, -1])]
noncomputable def S138 : Summ := summ [tL, tI] V (fun (d : List Int × Int) => tabS t138 d) (fun v => v)
theorem ok138 : SumOk Try.prog 138 S138 :=
  sum_k hmix f138.E (fn := Try.f138) (code := f138.code) (by kernel_rfl) (by kernel_rfl) (by kernel_rfl) (fun _ => ttOk) f138.sums f138.inl fun (d : List Int × Int) x hx => ⟨40, tab_all (P := fun (d : List Int × Int) x => evFn (f138.E 40) 9 138 Try.f138 (encL [tL, tI] d) = some x) (tab := t138) ⟨f138.at0, trivial⟩ hx⟩
/-! 139: stream.Left -/
noncomputable def f139.E (k : Nat) : Env := mkEnv tt [] [] [] [] k
noncomputable def f139.code : Go.Code := (Go.Func.body Try.f139).getD .skip
theorem f139.inl (k : Nat) : InlOk Try.prog (f139.E k) := inl_nil
theorem f139.sums (k : Nat) : SumsOk Try.prog (f139.E k) := sums_nil
noncomputable def S139 : Summ := summ [tL, tL, tI] V (fun d => evFn (f139.E 40) 9 139 Try.f139 (encL [tL, tL, tI] d)) (fun v => v)
theorem ok139 : SumOk Try.prog 139 S139 :=
  sum_k hmix f139.E (fn := Try.f139) (code := f139.code) (by kernel_rfl) (by kernel_rfl) (by kernel_rfl) (fun _ => ttOk) f139.sums f139.inl fun d x hx => ⟨40, hx⟩
/-! 124: level.Levels -/
noncomputable def f124.E (k : Nat) : Env := mkEnv tt [(92, S92), (132, S132), (137, S137), (138, S138), (139, S139)] [] [(124, 11, [.kill (rg [(0, 0), (3, 9), (11, 11), (15, 67), (71, 104)]), .tidy]), (124, 7, [.kill (rg [(0, 0), (3, 9), (11, 11), (14, 104)]), .tidy])] [] k
noncomputable def f124.code : Go.Code := (Go.Func.body Try.f124).getD .skip
theorem f124.inl (k : Nat) : InlOk Try.prog (f124.E k) := inl_nil
theorem f124.sums (k : Nat) : SumsOk Try.prog (f124.E k) := (sums_cons ok92 (sums_cons ok132 (sums_cons ok137 (sums_cons ok138 (sums_cons ok139 sums_nil)))))
theorem f124.at0 : evFn (f124.E 40) 9 124 Try.f124 (encL [tG, tL, tL, tI] (((3, [(0, 1, 5), (1, 2, 4), (0, 2, 3)]), [5, 4, 3], [0, 0, 0], 0) : Gr × (List Int × (List Int × Int)))) = some (.tup [.own tI [0, 1, 1], .int .i64 0]) := by kernel_rfl
theorem f124.at1 : evFn (f124.E 40) 9 124 Try.f124 (encL [tG, tL, tL, tI] (((3, [(0, 1, 5), (1, 2, 4), (0, 2, 3)]), [5, 4, 3], [0, 0, 3], 0) : Gr × (List Int × (List Int × Int)))) = some (.tup [.own tI [0, 1, 2], .int .i64 0]) := by kernel_rfl
theorem f124.at2 : evFn (f124.E 40) 9 124 Try.f124 (encL [tG, tL, tL, tI] (((3, [(0, 1, 5), (1, 2, 4), (0, 2, 3)]), [5, 4, 3], [4, 4, 3], 0) : Gr × (List Int × (List Int × Int)))) = some (.tup [.own tI [0, 1, -1], .int .i64 0]) := by kernel_rfl
def t124 : List ((Gr × (List Int × (List Int × Int))) × V) := [(((3, [(0, 1, 5), (1, 2, 4), (0, 2, 3)]), [5, 4, 3], [0, 0, 0], 0), .tup [.own tI [0, 1, 1], .int .i64 0]),
  (((3, [(0, 1, 5), (1, 2, 4), (0, 2, 3)]), [5, 4, 3], [0, 0, 3], 0), .tup [.own tI [0, 1, 2], .int .i64 0]),
  (((3, [(0, 1, 5), (1, 2, 4), (0, 2, 3)]), [5, 4, 3], [4, 4, 3], 0), .tup [.own tI [0, 1, -1], .int .i64 0])]
noncomputable def S124 : Summ := summ [tG, tL, tL, tI] V (fun (d : Gr × (List Int × (List Int × Int))) => tabS t124 d) (fun v => v)
theorem ok124 : SumOk Try.prog 124 S124 :=
  sum_k hmix f124.E (fn := Try.f124) (code := f124.code) (by kernel_rfl) (by kernel_rfl) (by kernel_rfl) (fun _ => ttOk) f124.sums f124.inl fun (d : Gr × (List Int × (List Int × Int))) x hx => ⟨40, tab_all (P := fun (d : Gr × (List Int × (List Int × Int))) x => evFn (f124.E 40) 9 124 Try.f124 (encL [tG, tL, tL, tI] d) = some x) (tab := t124) ⟨f124.at0, f124.at1, f124.at2, trivial⟩ hx⟩
/-! 100: reach.Reach -/
noncomputable def f100.E (k : Nat) : Env := mkEnv tt [(124, S124)] [] [(100, 6, [.kill (rg [(0, 11), (13, 24), (28, 39)]), .tidy])] [] k
noncomputable def f100.code : Go.Code := (Go.Func.body Try.f100).getD .skip
theorem f100.inl (k : Nat) : InlOk Try.prog (f100.E k) := inl_nil
theorem f100.sums (k : Nat) : SumsOk Try.prog (f100.E k) := (sums_cons ok124 sums_nil)
theorem f100.at0 : evFn (f100.E 40) 9 100 Try.f100 (encL [tG, tL, tL, tI] (((3, [(0, 1, 5), (1, 2, 4), (0, 2, 3)]), [5, 4, 3], [4, 4, 3], 0) : Gr × (List Int × (List Int × Int)))) = some (.tup [.own tI [0, 1], .int .i64 0]) := by kernel_rfl
def t100 : List ((Gr × (List Int × (List Int × Int))) × V) := [(((3, [(0, 1, 5), (1, 2, 4), (0, 2, 3)]), [5, 4, 3], [4, 4, 3], 0), .tup [.own tI [0, 1], .int .i64 0])]
noncomputable def S100 : Summ := summ [tG, tL, tL, tI] V (fun (d : Gr × (List Int × (List Int × Int))) => tabS t100 d) (fun v => v)
theorem ok100 : SumOk Try.prog 100 S100 :=
  sum_k hmix f100.E (fn := Try.f100) (code := f100.code) (by kernel_rfl) (by kernel_rfl) (by kernel_rfl) (fun _ => ttOk) f100.sums f100.inl fun (d : Gr × (List Int × (List Int × Int))) x hx => ⟨40, tab_all (P := fun (d : Gr × (List Int × (List Int × Int))) x => evFn (f100.E 40) 9 100 Try.f100 (encL [tG, tL, tL, tI] d) = some x) (tab := t100) ⟨f100.at0, trivial⟩ hx⟩
/-! 134: rate.Least -/
noncomputable def f134.E (k : Nat) : Env := mkEnv tt [] [] [(134, 2, [.kill (rg [(1, 6), (10, 17)]), .tidy])] [] k
noncomputable def f134.code : Go.Code := (Go.Func.body Try.f134).getD .skip
theorem f134.inl (k : Nat) : InlOk Try.prog (f134.E k) := inl_nil
theorem f134.sums (k : Nat) : SumsOk Try.prog (f134.E k) := sums_nil
noncomputable def S134 : Summ := summ [tI, tL] V (fun d => evFn (f134.E 40) 9 134 Try.f134 (encL [tI, tL] d)) (fun v => v)
theorem ok134 : SumOk Try.prog 134 S134 :=
  sum_k hmix f134.E (fn := Try.f134) (code := f134.code) (by kernel_rfl) (by kernel_rfl) (by kernel_rfl) (fun _ => ttOk) f134.sums f134.inl fun d x hx => ⟨40, hx⟩
/-! 136: stream.Move -/
noncomputable def f136.E (k : Nat) : Env := mkEnv tt [(78, S78), (98, S98), (137, S137), (139, S139)] [(159, Try.f159)] [(136, 11, [.kill (rg [(0, 0), (2, 2), (4, 13), (15, 49), (53, 67)]), .tidy]), (136, 4, [.kill (rg [(0, 0), (5, 31), (35, 67)]), .tidy])] [] k
noncomputable def f136.code : Go.Code := (Go.Func.body Try.f136).getD .skip
theorem f136.inl (k : Nat) : InlOk Try.prog (f136.E k) := (inl_cons (by kernel_rfl) (by kernel_rfl) inl_nil)
theorem f136.sums (k : Nat) : SumsOk Try.prog (f136.E k) := (sums_cons ok78 (sums_cons ok98 (sums_cons ok137 (sums_cons ok139 sums_nil))))
theorem f136.at0 : evFn (f136.E 40) 9 136 Try.f136 (encL [tG, tL, tL, tI, tL] (((3, [(0, 1, 5), (1, 2, 4), (0, 2, 3)]), [5, 4, 3], [0, 0, 0], 3, [4]) : Gr × (List Int × (List Int × (Int × List Int))))) = some (.tup [.own tI [0, 0, 3], .int .i64 0]) := by kernel_rfl
theorem f136.at1 : evFn (f136.E 40) 9 136 Try.f136 (encL [tG, tL, tL, tI, tL] (((3, [(0, 1, 5), (1, 2, 4), (0, 2, 3)]), [5, 4, 3], [0, 0, 3], 4, [0, 2]) : Gr × (List Int × (List Int × (Int × List Int))))) = some (.tup [.own tI [4, 4, 3], .int .i64 0]) := by kernel_rfl
def t136 : List ((Gr × (List Int × (List Int × (Int × List Int)))) × V) := [(((3, [(0, 1, 5), (1, 2, 4), (0, 2, 3)]), [5, 4, 3], [0, 0, 0], 3, [4]), .tup [.own tI [0, 0, 3], .int .i64 0]),
  (((3, [(0, 1, 5), (1, 2, 4), (0, 2, 3)]), [5, 4, 3], [0, 0, 3], 4, [0, 2]), .tup [.own tI [4, 4, 3], .int .i64 0])]
noncomputable def S136 : Summ := summ [tG, tL, tL, tI, tL] V (fun (d : Gr × (List Int × (List Int × (Int × List Int)))) => tabS t136 d) (fun v => v)
theorem ok136 : SumOk Try.prog 136 S136 :=
  sum_k hmix f136.E (fn := Try.f136) (code := f136.code) (by kernel_rfl) (by kernel_rfl) (by kernel_rfl) (fun _ => ttOk) f136.sums f136.inl fun (d : Gr × (List Int × (List Int × (Int × List Int)))) x hx => ⟨40, tab_all (P := fun (d : Gr × (List Int × (List Int × (Int × List Int)))) x => evFn (f136.E 40) 9 136 Try.f136 (encL [tG, tL, tL, tI, tL] d) = some x) (tab := t136) ⟨f136.at0, f136.at1, trivial⟩ hx⟩
end Go.Proofs.Ytiboikgoaihccaa.R
