/-
Functions of pure data, known by their evaluation: for runs on closed data. Printed by program.
-/
import Derived.Test.YtiboikgoaihccaaProg
import Derived.Test.YtiboikgoaihccaaRC
import Derived.Test.YtiboikgoaihccaaTt
import Derived.Test.YtiboikgoaihccaaG3
import Derived.Test.YtiboikgoaihccaaC90
import Derived.Test.YtiboikgoaihccaaS22
import Derived.KernelRfl
namespace Go.Proofs.Ytiboikgoaihccaa.R
set_option maxRecDepth 100000
set_option linter.unusedVariables false
/-! 141: cycle.lies -/
noncomputable def f141.E (k : Nat) : Env := mkEnv tt [(128, S128), (137, S137)] [] [] [] k
noncomputable def f141.code : Go.Code := (Go.Func.body Try.f141).getD .skip
theorem f141.inl (k : Nat) : InlOk Try.prog (f141.E k) := inl_nil
theorem f141.sums (k : Nat) : SumsOk Try.prog (f141.E k) := (sums_cons ok128 (sums_cons ok137 sums_nil))
theorem f141.at0 : evFn (f141.E 40) 9 141 Try.f141 (encL [tG, tL] (((3, [(0, 1, 5), (1, 2, 4), (0, 2, 3)]), [4, 4, 3]) : Gr × List Int)) = some (.bool true) := by kernel_rfl
def t141 : List ((Gr × List Int) × V) := [(((3, [(0, 1, 5), (1, 2, 4), (0, 2, 3)]), [4, 4, 3]), .bool true)]
noncomputable def S141 : Summ := summ [tG, tL] V (fun (d : Gr × List Int) => tabS t141 d) (fun v => v)
theorem ok141 : SumOk Try.prog 141 S141 :=
  sum_k hmix f141.E (fn := Try.f141) (code := f141.code) (by kernel_rfl) (by kernel_rfl) (by kernel_rfl) (fun _ => ttOk) f141.sums f141.inl fun (d : Gr × List Int) x hx => ⟨40, tab_all (P := fun (d : Gr × List Int) x => evFn (f141.E 40) 9 141 Try.f141 (encL [tG, tL] d) = some x) (tab := t141) ⟨f141.at0, trivial⟩ hx⟩
/-! 173: slices.Repeat -/
noncomputable def f173.E (k : Nat) : Env := mkEnv tt [] [(160, Try.f160), (171, Try.f171), (172, Try.f172)] [(173, 8, [.kill (rg [(0, 6), (9, 47)]), .tidy]), (173, 9, [.drop 62])] [] k
noncomputable def f173.code : Go.Code := (Go.Func.body Try.f173).getD .skip
theorem f173.inl (k : Nat) : InlOk Try.prog (f173.E k) := (inl_cons (by kernel_rfl) (by kernel_rfl) (inl_cons (by kernel_rfl) (by kernel_rfl) (inl_cons (by kernel_rfl) (by kernel_rfl) inl_nil)))
theorem f173.sums (k : Nat) : SumsOk Try.prog (f173.E k) := sums_nil
theorem f173.at0 : evFn (f173.E 40) 9 173 Try.f173 (encL [(.list .bool), tI] (([true], 3) : List Bool × Int)) = some (.own .bool [true, true, true]) := by kernel_rfl
def t173 : List ((List Bool × Int) × V) := [(([true], 3), .own .bool [true, true, true])]
noncomputable def S173 : Summ := summ [(.list .bool), tI] V (fun (d : List Bool × Int) => tabS t173 d) (fun v => v)
theorem ok173 : SumOk Try.prog 173 S173 :=
  sum_k hmix f173.E (fn := Try.f173) (code := f173.code) (by kernel_rfl) (by kernel_rfl) (by kernel_rfl) (fun _ => ttOk) f173.sums f173.inl fun (d : List Bool × Int) x hx => ⟨40, tab_all (P := fun (d : List Bool × Int) x => evFn (f173.E 40) 9 173 Try.f173 (encL [(.list .bool), tI] d) = some x) (tab := t173) ⟨f173.at0, trivial⟩ hx⟩
/-! 163: cycle.on -/
noncomputable def f163.E (k : Nat) : Env := mkEnv tt [] [] [(163, 2, [.kill (rg [(0, 0), (4, 11), (15, 38)]), .tidy])] [] k
noncomputable def f163.code : Go.Code := (Go.Func.body Try.f163).getD .skip
theorem f163.inl (k : Nat) : InlOk Try.prog (f163.E k) := inl_nil
theorem f163.sums (k : Nat) : SumsOk Try.prog (f163.E k) := sums_nil
noncomputable def S163 : Summ := summ [tG, tL, (.list .bool), tI] V (fun d => evFn (f163.E 40) 9 163 Try.f163 (encL [tG, tL, (.list .bool), tI] d)) (fun v => v)
theorem ok163 : SumOk Try.prog 163 S163 :=
  sum_k hmix f163.E (fn := Try.f163) (code := f163.code) (by kernel_rfl) (by kernel_rfl) (by kernel_rfl) (fun _ => ttOk) f163.sums f163.inl fun d x hx => ⟨40, hx⟩
/-! 161: cycle.core -/
noncomputable def f161.E (k : Nat) : Env := mkEnv tt [(163, S163), (173, S173)] [] [(161, 5, [.kill (rg [(0, 0), (3, 4), (6, 11), (14, 15), (18, 37)]), .tidy]), (161, 3, [.kill (rg [(0, 0), (3, 4), (6, 11), (14, 37)]), .tidy])] [] k
noncomputable def f161.code : Go.Code := (Go.Func.body Try.f161).getD .skip
theorem f161.inl (k : Nat) : InlOk Try.prog (f161.E k) := inl_nil
theorem f161.sums (k : Nat) : SumsOk Try.prog (f161.E k) := (sums_cons ok163 (sums_cons ok173 sums_nil))
theorem f161.at0 : evFn (f161.E 40) 9 161 Try.f161 (encL [tG, tL] (((3, [(0, 1, 5), (1, 2, 4), (0, 2, 3)]), [4, 4, 3]) : Gr × List Int)) = some (.own .bool [false, false, false]) := by kernel_rfl
def t161 : List ((Gr × List Int) × V) := [(((3, [(0, 1, 5), (1, 2, 4), (0, 2, 3)]), [4, 4, 3]), .own .bool [false, false, false])]
noncomputable def S161 : Summ := summ [tG, tL] V (fun (d : Gr × List Int) => tabS t161 d) (fun v => v)
theorem ok161 : SumOk Try.prog 161 S161 :=
  sum_k hmix f161.E (fn := Try.f161) (code := f161.code) (by kernel_rfl) (by kernel_rfl) (by kernel_rfl) (fun _ => ttOk) f161.sums f161.inl fun (d : Gr × List Int) x hx => ⟨40, tab_all (P := fun (d : Gr × List Int) x => evFn (f161.E 40) 9 161 Try.f161 (encL [tG, tL] d) = some x) (tab := t161) ⟨f161.at0, trivial⟩ hx⟩
/-! 111: slices.Index -/
noncomputable def f111.E (k : Nat) : Env := mkEnv tt [] [] [(111, 2, [.kill (rg [(2, 6), (9, 18)]), .tidy])] [] k
noncomputable def f111.code : Go.Code := (Go.Func.body Try.f111).getD .skip
theorem f111.inl (k : Nat) : InlOk Try.prog (f111.E k) := inl_nil
theorem f111.sums (k : Nat) : SumsOk Try.prog (f111.E k) := sums_nil
noncomputable def S111 : Summ := summ [tL, tI] V (fun d => evFn (f111.E 40) 9 111 Try.f111 (encL [tL, tI] d)) (fun v => v)
theorem ok111 : SumOk Try.prog 111 S111 :=
  sum_k hmix f111.E (fn := Try.f111) (code := f111.code) (by kernel_rfl) (by kernel_rfl) (by kernel_rfl) (fun _ => ttOk) f111.sums f111.inl fun d x hx => ⟨40, hx⟩
/-! 162: slices.Index -/
noncomputable def f162.E (k : Nat) : Env := mkEnv tt [] [] [(162, 2, [.kill (rg [(2, 6), (9, 18)]), .tidy])] [] k
noncomputable def f162.code : Go.Code := (Go.Func.body Try.f162).getD .skip
theorem f162.inl (k : Nat) : InlOk Try.prog (f162.E k) := inl_nil
theorem f162.sums (k : Nat) : SumsOk Try.prog (f162.E k) := sums_nil
noncomputable def S162 : Summ := summ [(.list .bool), .bool] V (fun d => evFn (f162.E 40) 9 162 Try.f162 (encL [(.list .bool), .bool] d)) (fun v => v)
theorem ok162 : SumOk Try.prog 162 S162 :=
  sum_k hmix f162.E (fn := Try.f162) (code := f162.code) (by kernel_rfl) (by kernel_rfl) (by kernel_rfl) (fun _ => ttOk) f162.sums f162.inl fun d x hx => ⟨40, hx⟩
/-! 142: cycle.find -/
noncomputable def f142.E (k : Nat) : Env := mkEnv tt [(78, S78), (111, S111), (161, S161), (162, S162), (163, S163)] [] [(142, 7, [.kill (rg [(0, 0), (3, 4), (6, 6), (9, 53)]), .tidy])] [] k
noncomputable def f142.code : Go.Code := (Go.Func.body Try.f142).getD .skip
theorem f142.inl (k : Nat) : InlOk Try.prog (f142.E k) := inl_nil
theorem f142.sums (k : Nat) : SumsOk Try.prog (f142.E k) := (sums_cons ok78 (sums_cons ok111 (sums_cons ok161 (sums_cons ok162 (sums_cons ok163 sums_nil)))))
theorem f142.at0 : evFn (f142.E 40) 9 142 Try.f142 (encL [tG, tL] (((3, [(0, 1, 5), (1, 2, 4), (0, 2, 3)]), [4, 4, 3]) : Gr × List Int)) = some (.own tI []) := by kernel_rfl
def t142 : List ((Gr × List Int) × V) := [(((3, [(0, 1, 5), (1, 2, 4), (0, 2, 3)]), [4, 4, 3]), .own tI [])]
noncomputable def S142 : Summ := summ [tG, tL] V (fun (d : Gr × List Int) => tabS t142 d) (fun v => v)
theorem ok142 : SumOk Try.prog 142 S142 :=
  sum_k hmix f142.E (fn := Try.f142) (code := f142.code) (by kernel_rfl) (by kernel_rfl) (by kernel_rfl) (fun _ => ttOk) f142.sums f142.inl fun (d : Gr × List Int) x hx => ⟨40, tab_all (P := fun (d : Gr × List Int) x => evFn (f142.E 40) 9 142 Try.f142 (encL [tG, tL] d) = some x) (tab := t142) ⟨f142.at0, trivial⟩ hx⟩
/-! 143: cycle.along -/
noncomputable def f143.E (k : Nat) : Env := mkEnv tt [] [] [(143, 3, [.kill (rg [(1, 4), (6, 7), (11, 22)]), .tidy])] [] k
noncomputable def f143.code : Go.Code := (Go.Func.body Try.f143).getD .skip
theorem f143.inl (k : Nat) : InlOk Try.prog (f143.E k) := inl_nil
theorem f143.sums (k : Nat) : SumsOk Try.prog (f143.E k) := sums_nil
noncomputable def S143 : Summ := summ [tL, tL] V (fun d => evFn (f143.E 40) 9 143 Try.f143 (encL [tL, tL] d)) (fun v => v)
theorem ok143 : SumOk Try.prog 143 S143 :=
  sum_k hmix f143.E (fn := Try.f143) (code := f143.code) (by kernel_rfl) (by kernel_rfl) (by kernel_rfl) (fun _ => ttOk) f143.sums f143.inl fun d x hx => ⟨40, hx⟩
/-! 126: cycle.Cancel -/
noncomputable def f126.E (k : Nat) : Env := mkEnv tt [(78, S78), (134, S134), (141, S141), (142, S142), (143, S143)] [] [(126, 9, [.kill (rg [(0, 1), (3, 5), (7, 7), (9, 29), (33, 44)]), .tidy]), (126, 5, [.kill (rg [(0, 1), (3, 5), (8, 44)]), .tidy])] [] k
noncomputable def f126.code : Go.Code := (Go.Func.body Try.f126).getD .skip
theorem f126.inl (k : Nat) : InlOk Try.prog (f126.E k) := inl_nil
theorem f126.sums (k : Nat) : SumsOk Try.prog (f126.E k) := (sums_cons ok78 (sums_cons ok134 (sums_cons ok141 (sums_cons ok142 (sums_cons ok143 sums_nil)))))
theorem f126.at0 : evFn (f126.E 40) 9 126 Try.f126 (encL [tG, tL] (((3, [(0, 1, 5), (1, 2, 4), (0, 2, 3)]), [4, 4, 3]) : Gr × List Int)) = some (.tup [.own tI [4, 4, 3], .int .i64 0]) := by kernel_rfl
def t126 : List ((Gr × List Int) × V) := [(((3, [(0, 1, 5), (1, 2, 4), (0, 2, 3)]), [4, 4, 3]), .tup [.own tI [4, 4, 3], .int .i64 0])]
noncomputable def S126 : Summ := summ [tG, tL] V (fun (d : Gr × List Int) => tabS t126 d) (fun v => v)
theorem ok126 : SumOk Try.prog 126 S126 :=
  sum_k hmix f126.E (fn := Try.f126) (code := f126.code) (by kernel_rfl) (by kernel_rfl) (by kernel_rfl) (fun _ => ttOk) f126.sums f126.inl fun (d : Gr × List Int) x hx => ⟨40, tab_all (P := fun (d : Gr × List Int) x => evFn (f126.E 40) 9 126 Try.f126 (encL [tG, tL] d) = some x) (tab := t126) ⟨f126.at0, trivial⟩ hx⟩
/-! 144: strand.next -/
noncomputable def f144.E (k : Nat) : Env := mkEnv tt [] [] [(144, 2, [.kill (rg [(0, 0), (3, 9), (13, 29)]), .tidy])] [] k
noncomputable def f144.code : Go.Code := (Go.Func.body Try.f144).getD .skip
theorem f144.inl (k : Nat) : InlOk Try.prog (f144.E k) := inl_nil
theorem f144.sums (k : Nat) : SumsOk Try.prog (f144.E k) := sums_nil
noncomputable def S144 : Summ := summ [tG, tL, tI] V (fun d => evFn (f144.E 40) 9 144 Try.f144 (encL [tG, tL, tI] d)) (fun v => v)
theorem ok144 : SumOk Try.prog 144 S144 :=
  sum_k hmix f144.E (fn := Try.f144) (code := f144.code) (by kernel_rfl) (by kernel_rfl) (by kernel_rfl) (fun _ => ttOk) f144.sums f144.inl fun d x hx => ⟨40, hx⟩
/-! 101: strand.Split -/
noncomputable def f101.E (k : Nat) : Env := mkEnv tt [(125, S125), (126, S126), (134, S134), (144, S144)] [(127, Try.f127)] [(101, 7, [.kill (rg [(0, 1), (5, 9), (11, 11), (13, 44)]), .tidy]), (127, 16, [.kill (rg [(0, 0), (2, 7), (9, 9), (11, 65), (69, 81)]), .tidy]), (127, 11, [.kill (rg [(0, 0), (2, 7), (9, 9), (11, 48), (52, 81)]), .tidy]), (127, 3, [.kill (rg [(0, 0), (2, 2), (5, 7), (9, 9), (12, 81)]), .tidy])] [(127, 2240, (rg [(0, 1), (5, 9), (11, 11), (13, 34), (36, 44)]))] k
noncomputable def f101.code : Go.Code := (Go.Func.body Try.f101).getD .skip
theorem f101.inl (k : Nat) : InlOk Try.prog (f101.E k) := (inl_cons (by kernel_rfl) (by kernel_rfl) inl_nil)
theorem f101.sums (k : Nat) : SumsOk Try.prog (f101.E k) := (sums_cons ok125 (sums_cons ok126 (sums_cons ok134 (sums_cons ok144 sums_nil))))
theorem f101.at0 : evFn (f101.E 40) 9 101 Try.f101 (encL [tG, tL, tI, tI] (((3, [(0, 1, 5), (1, 2, 4), (0, 2, 3)]), [4, 4, 3], 0, 2) : Gr × (List Int × (Int × Int)))) = some (.tup [.own tP [(4, [0, 1]), (3, [2])], .int .i64 0]) := by kernel_rfl
def t101 : List ((Gr × (List Int × (Int × Int))) × V) := [(((3, [(0, 1, 5), (1, 2, 4), (0, 2, 3)]), [4, 4, 3], 0, 2), .tup [.own tP [(4, [0, 1]), (3, [2])], .int .i64 0])]
noncomputable def S101 : Summ := summ [tG, tL, tI, tI] V (fun (d : Gr × (List Int × (Int × Int))) => tabS t101 d) (fun v => v)
theorem ok101 : SumOk Try.prog 101 S101 :=
  sum_k hmix f101.E (fn := Try.f101) (code := f101.code) (by kernel_rfl) (by kernel_rfl) (by kernel_rfl) (fun _ => ttOk) f101.sums f101.inl fun (d : Gr × (List Int × (Int × Int))) x hx => ⟨40, tab_all (P := fun (d : Gr × (List Int × (Int × Int))) x => evFn (f101.E 40) 9 101 Try.f101 (encL [tG, tL, tI, tI] d) = some x) (tab := t101) ⟨f101.at0, trivial⟩ hx⟩
end Go.Proofs.Ytiboikgoaihccaa.R
