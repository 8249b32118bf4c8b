/-
Texts of package route, put together by program.
-/
import Derived.Test.YtiboikgoaihccaaProg
import Derived.Test.YtiboikgoaihccaaRC
import Derived.Test.YtiboikgoaihccaaTt
import Derived.Test.YtiboikgoaihccaaS36
import Derived.KernelRfl
namespace Go.Proofs.Ytiboikgoaihccaa.R

section
set_option maxRecDepth 100000
set_option linter.unusedVariables false
noncomputable def f156.E (k : Nat) : Env := mkEnv tt [] [] [] [] k
noncomputable def f156.code : Go.Code := (Go.Func.body Try.f156).getD .skip
theorem f156.eq (k : Nat) (x0 : Int × List (Int × Int × Int)) (x1 : Int) : evFn (f156.E k) 9 156 Try.f156 [(.agg [(.int .i64 (x0.fst)), (.ro (.pair (.int .i64) (.pair (.int .i64) (.int .i64))) (x0.snd))]), (.int .i64 (x1))] =
  chk (decide ((0 : Int) ≤ Go.IntKind.i64.wrap (x1.tdiv (2 : Int)) ∧ Go.IntKind.i64.wrap (x1.tdiv (2 : Int)) < (↑(List.length x0.snd) : Int))) (bif x1.tmod (2 : Int) == (1 : Int) then (some (.tup [(.int .i64 ((rd ((Ty.int Go.IntKind.i64).pair ((Ty.int Go.IntKind.i64).pair (Ty.int Go.IntKind.i64))) x0.snd (Go.IntKind.i64.wrap (x1.tdiv (2 : Int)))).snd.fst)), (.int .i64 ((rd ((Ty.int Go.IntKind.i64).pair ((Ty.int Go.IntKind.i64).pair (Ty.int Go.IntKind.i64))) x0.snd (Go.IntKind.i64.wrap (x1.tdiv (2 : Int)))).fst))])) else (some (.tup [(.int .i64 ((rd ((Ty.int Go.IntKind.i64).pair ((Ty.int Go.IntKind.i64).pair (Ty.int Go.IntKind.i64))) x0.snd (Go.IntKind.i64.wrap (x1.tdiv (2 : Int)))).fst)), (.int .i64 ((rd ((Ty.int Go.IntKind.i64).pair ((Ty.int Go.IntKind.i64).pair (Ty.int Go.IntKind.i64))) x0.snd (Go.IntKind.i64.wrap (x1.tdiv (2 : Int)))).snd.fst))]))) := by kernel_rfl
theorem f156.inl (k : Nat) : InlOk Try.prog (f156.E k) := inl_nil
theorem f156.sums (k : Nat) : SumsOk Try.prog (f156.E k) := sums_nil
noncomputable def f139.E (k : Nat) : Env := mkEnv tt [] [] [] [] k
noncomputable def f139.code : Go.Code := (Go.Func.body Try.f139).getD .skip
theorem f139.eq (k : Nat) (x0 : List Int) (x1 : List Int) (x2 : Int) : evFn (f139.E k) 9 139 Try.f139 [(.ro (.int .i64) (x0)), (.ro (.int .i64) (x1)), (.int .i64 (x2))] =
  bif x2.tmod (2 : Int) == (1 : Int) then (chk (decide ((0 : Int) ≤ Go.IntKind.i64.wrap (x2.tdiv (2 : Int)) ∧ Go.IntKind.i64.wrap (x2.tdiv (2 : Int)) < (↑x1.length : Int))) (some (.int .i64 (rd (Ty.int Go.IntKind.i64) x1 (Go.IntKind.i64.wrap (x2.tdiv (2 : Int))))))) else (chk (decide ((0 : Int) ≤ Go.IntKind.i64.wrap (x2.tdiv (2 : Int)) ∧ Go.IntKind.i64.wrap (x2.tdiv (2 : Int)) < (↑x0.length : Int))) (chk (decide ((0 : Int) ≤ Go.IntKind.i64.wrap (x2.tdiv (2 : Int)) ∧ Go.IntKind.i64.wrap (x2.tdiv (2 : Int)) < (↑x1.length : Int))) (some (.int .i64 (Go.IntKind.i64.wrap (rd (Ty.int Go.IntKind.i64) x0 (Go.IntKind.i64.wrap (x2.tdiv (2 : Int))) - rd (Ty.int Go.IntKind.i64) x1 (Go.IntKind.i64.wrap (x2.tdiv (2 : Int))))))))) := by kernel_rfl
theorem f139.inl (k : Nat) : InlOk Try.prog (f139.E k) := inl_nil
theorem f139.sums (k : Nat) : SumsOk Try.prog (f139.E k) := sums_nil
noncomputable def f134.E (k : Nat) : Env := mkEnv tt [] [] [(134, 2, [.kill (rg [(1, 6), (10, 17)]), .tidy])] [] k
noncomputable def f134.code : Go.Code := (Go.Func.body Try.f134).getD .skip
noncomputable def f134.l0 (k n : Nat) (p0 : Int) (p1 : List Int) (p2 : Int) (p3 : Int) : Option V :=
  atPath (f134.E k) n ⟨[(.int .i64 (p0)), .undef, .undef, .undef, .undef, .undef, .undef, (.ro (.int .i64) (p1)), (.int .i64 (p2)), (.int .i64 (p3)), .undef, .undef, .undef, .undef, .undef, .undef, .undef, .undef], [], []⟩ 9 0 134 [.c 1, .c 0, .c 1, .c 0] [] f134.code (finK tt Try.f134)
theorem f134.l0_eq (k n : Nat) (p0 : Int) (p1 : List Int) (p2 : Int) (p3 : Int) : f134.l0 k (n + 1) p0 p1 p2 p3 =
  bif decide (p3 < p2) then (chk (decide ((0 : Int) ≤ p3 ∧ p3 < (↑p1.length : Int))) (f134.l0 k n (List.foldl min2I p0 [rd (Ty.int Go.IntKind.i64) p1 p3]) (p1) (p2) (Go.IntKind.i64.wrap (p3 + (1 : Int))))) else (some (.int .i64 (p0))) := by kernel_rfl
theorem f134.eq (k : Nat) (x0 : Int) (x1 : List Int) : evFn (f134.E k) 9 134 Try.f134 [(.int .i64 (x0)), (.ro (.int .i64) (x1))] =
  f134.l0 k k (x0) (x1) ((↑x1.length : Int)) ((0 : Int)) := by kernel_rfl
theorem f134.inl (k : Nat) : InlOk Try.prog (f134.E k) := inl_nil
theorem f134.sums (k : Nat) : SumsOk Try.prog (f134.E k) := sums_nil
end

section
set_option maxRecDepth 100000
set_option linter.unusedVariables false

/-- The link of an arc; is it gone back? -/
def arcL (a : Int) : Int := a / 2
def backB (a : Int) : Bool := a % 2 == 1
def arcIn (n : Nat) (a : Int) : Bool := decide (0 ≤ a ∧ a < 2 * (n : Int))
def arcFrom (gl : List Lk) (a : Int) : Int := bif backB a then (lk gl (arcL a)).2.1 else (lk gl (arcL a)).1
def arcTo (gl : List Lk) (a : Int) : Int := bif backB a then (lk gl (arcL a)).1 else (lk gl (arcL a)).2.1
/-- What more an arc takes. -/
def roomA (cs f : List Int) (a : Int) : Int := bif backB a then rdI f (arcL a) else rdI cs (arcL a) - rdI f (arcL a)

theorem arc_tdiv {a : Int} (h : 0 ≤ a ∧ a ≤ 9223372036854775807) : Go.IntKind.i64.wrap (a.tdiv 2) = arcL a := by
  rw [Int.tdiv_eq_ediv_of_nonneg h.1, wrap64 (by omega)]
  rfl
theorem arc_tmod {a : Int} (h : 0 ≤ a) : (a.tmod 2 == 1) = backB a := by
  rw [Int.tmod_eq_emod_of_nonneg h]
  rfl
theorem arcL_in {n : Nat} {a : Int} (h : arcIn n a = true) : decide ((0 : Int) ≤ arcL a ∧ arcL a < (n : Int)) = true := by
  have h := of_decide_eq_true h
  exact decide_eq_true (by unfold arcL; omega)

noncomputable def S156 : Summ := summ [tG, tI] (Int × Int) (fun (d : Gr × Int) => chk (decide (d.1.2.length ≤ 16) && arcIn d.1.2.length d.2) (some (arcFrom d.1.2 d.2, arcTo d.1.2 d.2))) resII
theorem ok156 : SumOk Try.prog 156 S156 :=
  sum_k hmix f156.E (fn := Try.f156) (code := f156.code) (by kernel_rfl) (by kernel_rfl) (by kernel_rfl) (fun _ => ttOk) f156.sums f156.inl fun (d : Gr × Int) x hx => by
    obtain ⟨hb, hx⟩ := chk_some hx
    obtain rfl := Option.some.inj hx
    rw [Bool.and_eq_true] at hb
    have hl := of_decide_eq_true hb.1
    have ha := of_decide_eq_true hb.2
    refine ⟨0, (f156.eq 0 d.1 d.2).trans ?_⟩
    rw [arc_tdiv (by omega), arc_tmod (by omega), chk_eq (arcL_in hb.2)]
    unfold arcFrom arcTo
    cases backB d.2 <;> rfl

theorem wrap_room {c e : Int} (h : 0 ≤ c - e) (h' : c - e ≤ maxRate) : Go.IntKind.i64.wrap (c - e) = c - e := by
  have hM : maxRate = 4611686018427387904 := rfl
  exact wrap64 (by omega)

noncomputable def S139 : Summ := summ [tL, tL, tI] Int (fun (d : List Int × (List Int × Int)) =>
  chk (decide (d.1.length ≤ 16 ∧ d.2.1.length = d.1.length) && (arcIn d.1.length d.2.2 && rateB (roomA d.1 d.2.1 d.2.2))) (some (roomA d.1 d.2.1 d.2.2))) (.int .i64)
theorem ok139 : SumOk Try.prog 139 S139 :=
  sum_k hmix f139.E (fn := Try.f139) (code := f139.code) (by kernel_rfl) (by kernel_rfl) (by kernel_rfl) (fun _ => ttOk) f139.sums f139.inl fun (d : List Int × (List Int × Int)) x hx => by
    obtain ⟨hb, hx⟩ := chk_some hx
    obtain rfl := Option.some.inj hx
    rw [Bool.and_eq_true, Bool.and_eq_true] at hb
    have hl := of_decide_eq_true hb.1
    have ha := of_decide_eq_true hb.2.1
    have hr := of_decide_eq_true hb.2.2
    have hM : maxRate = 4611686018427387904 := rfl
    refine ⟨0, (f139.eq 0 d.1 d.2.1 d.2.2).trans ?_⟩
    rw [arc_tdiv (by omega), arc_tmod (by omega), hl.2, chk_eq (arcL_in hb.2.1), chk_eq (arcL_in hb.2.1), chk_eq (arcL_in hb.2.1)]
    unfold roomA at hr ⊢
    cases hk : backB d.2.2 with
    | true => rw [cT, cT]; rfl
    | false =>
      rw [hk, cF] at hr
      rw [cF, cF]
      exact congrArg (fun x => some (V.int .i64 x)) (wrap_room hr.1 hr.2)

theorem min2I_min (x y : Int) : min2I x y = min x y := by
  unfold min2I
  by_cases h : y < x
  · rw [decide_eq_true h, cT]; omega
  · rw [decide_eq_false h, cF]; omega

noncomputable def S134 : Summ := summ [tI, tL] Int (fun (d : Int × List Int) => chk (decide (d.2.length < 4611686018427387904)) (some (d.2.foldl min d.1))) (.int .i64)
theorem f134.l0_is (k : Nat) (xs : List Int) (hl : xs.length < 4611686018427387904) : ∀ (n i : Nat) (x : Int), i ≤ xs.length → xs.length < n + i → f134.l0 k n x xs (xs.length : Int) (i : Int) = some (.int .i64 ((xs.drop i).foldl min x))
  | 0, i, x, h, h' => by omega
  | n + 1, i, x, h, h' => by
    by_cases hlt : i < xs.length
    · have hx := List.getElem?_eq_getElem hlt
      rw [f134.l0_eq, idx_lt' hx, idx_in hx, rd_some (t := tI) hx, wrap_succ (by omega), cT, kT, List.drop_eq_getElem_cons hlt, f134.l0_is k xs hl n (i + 1) _ (by omega) (by omega), List.foldl_cons, List.foldl_cons, List.foldl_nil, min2I_min]
    · obtain rfl : i = xs.length := by omega
      rw [f134.l0_eq, end_lt, cF, List.drop_length]
      rfl
theorem ok134 : SumOk Try.prog 134 S134 :=
  sum_k hmix f134.E (fn := Try.f134) (code := f134.code) (by kernel_rfl) (by kernel_rfl) (by kernel_rfl) (fun _ => ttOk) f134.sums f134.inl fun (d : Int × List Int) x hx => by
    obtain ⟨hb, hx⟩ := chk_some hx
    obtain rfl := Option.some.inj hx
    exact ⟨d.2.length + 1, (f134.eq _ d.1 d.2).trans (f134.l0_is _ d.2 (of_decide_eq_true hb) _ 0 d.1 (by omega) (by omega))⟩

noncomputable def f138.E (k : Nat) : Env := mkEnv tt [] [(160, Try.f160), (171, Try.f171), (172, Try.f172)] [(138, 8, [.kill (rg [(0, 6), (9, 47)]), .tidy]), (138, 9, [.drop 62])] [] k
noncomputable def f138.code : Go.Code := (Go.Func.body Try.f138).getD .skip
theorem f138.inl (k : Nat) : InlOk Try.prog (f138.E k) := (inl_cons (by kernel_rfl) (by kernel_rfl) (inl_cons (by kernel_rfl) (by kernel_rfl) (inl_cons (by kernel_rfl) (by kernel_rfl) inl_nil)))
theorem f138.sums (k : Nat) : SumsOk Try.prog (f138.E k) := sums_nil
theorem f138.at1 : evFn (f138.E 40) 9 138 Try.f138 (encL [.list tI, tI] (([-1], 1) : List Int × Int)) = some (.own tI [-1]) := by kernel_rfl
theorem f138.at2 : evFn (f138.E 40) 9 138 Try.f138 (encL [.list tI, tI] (([-1], 2) : List Int × Int)) = some (.own tI [-1, -1]) := by kernel_rfl
theorem f138.at3 : evFn (f138.E 40) 9 138 Try.f138 (encL [.list tI, tI] (([-1], 3) : List Int × Int)) = some (.own tI [-1, -1, -1]) := by kernel_rfl
theorem f138.at4 : evFn (f138.E 40) 9 138 Try.f138 (encL [.list tI, tI] (([-1], 4) : List Int × Int)) = some (.own tI [-1, -1, -1, -1]) := by kernel_rfl
theorem f138.at5 : evFn (f138.E 40) 9 138 Try.f138 (encL [.list tI, tI] (([-1], 5) : List Int × Int)) = some (.own tI [-1, -1, -1, -1, -1]) := by kernel_rfl
theorem f138.at6 : evFn (f138.E 40) 9 138 Try.f138 (encL [.list tI, tI] (([-1], 6) : List Int × Int)) = some (.own tI [-1, -1, -1, -1, -1, -1]) := by kernel_rfl
theorem f138.at7 : evFn (f138.E 40) 9 138 Try.f138 (encL [.list tI, tI] (([-1], 7) : List Int × Int)) = some (.own tI [-1, -1, -1, -1, -1, -1, -1]) := by kernel_rfl
theorem f138.at8 : evFn (f138.E 40) 9 138 Try.f138 (encL [.list tI, tI] (([-1], 8) : List Int × Int)) = some (.own tI [-1, -1, -1, -1, -1, -1, -1, -1]) := by kernel_rfl
noncomputable def S138 : Summ := summ [.list tI, tI] (List Int) (fun (d : List Int × Int) => chk (d.1 == [-1] && decide (1 ≤ d.2 ∧ d.2 ≤ 8)) (some (List.replicate d.2.toNat (-1)))) (.own tI)
theorem ok138 : SumOk Try.prog 138 S138 :=
  sum_k hmix f138.E (fn := Try.f138) (code := f138.code) (by kernel_rfl) (by kernel_rfl) (by kernel_rfl) (fun _ => ttOk) f138.sums f138.inl fun (d : List Int × Int) x hx => by
    obtain ⟨ys, n⟩ := d
    obtain ⟨hb, hx⟩ := chk_some hx
    obtain rfl := Option.some.inj hx
    rw [Bool.and_eq_true] at hb
    obtain rfl : ys = [-1] := eq_of_beq hb.1
    have hn : 1 ≤ n ∧ n ≤ 8 := of_decide_eq_true hb.2
    refine ⟨40, ?_⟩
    obtain rfl | rfl | rfl | rfl | rfl | rfl | rfl | rfl : n = 1 ∨ n = 2 ∨ n = 3 ∨ n = 4 ∨ n = 5 ∨ n = 6 ∨ n = 7 ∨ n = 8 := by omega
    · exact f138.at1
    · exact f138.at2
    · exact f138.at3
    · exact f138.at4
    · exact f138.at5
    · exact f138.at6
    · exact f138.at7
    · exact f138.at8

noncomputable def f173.E (k : Nat) : Env := mkEnv tt [] [(160, Try.f160), (171, Try.f171), (172, Try.f172)] [(173, 8, [.kill (rg [(0, 6), (9, 47)]), .tidy]), (173, 9, [.drop 62])] [] k
noncomputable def f173.code : Go.Code := (Go.Func.body Try.f173).getD .skip
theorem f173.inl (k : Nat) : InlOk Try.prog (f173.E k) := (inl_cons (by kernel_rfl) (by kernel_rfl) (inl_cons (by kernel_rfl) (by kernel_rfl) (inl_cons (by kernel_rfl) (by kernel_rfl) inl_nil)))
theorem f173.sums (k : Nat) : SumsOk Try.prog (f173.E k) := sums_nil
theorem f173.at1 : evFn (f173.E 40) 9 173 Try.f173 (encL [.list .bool, tI] (([true], 1) : List Bool × Int)) = some (.own .bool [true]) := by kernel_rfl
theorem f173.at2 : evFn (f173.E 40) 9 173 Try.f173 (encL [.list .bool, tI] (([true], 2) : List Bool × Int)) = some (.own .bool [true, true]) := by kernel_rfl
theorem f173.at3 : evFn (f173.E 40) 9 173 Try.f173 (encL [.list .bool, tI] (([true], 3) : List Bool × Int)) = some (.own .bool [true, true, true]) := by kernel_rfl
theorem f173.at4 : evFn (f173.E 40) 9 173 Try.f173 (encL [.list .bool, tI] (([true], 4) : List Bool × Int)) = some (.own .bool [true, true, true, true]) := by kernel_rfl
theorem f173.at5 : evFn (f173.E 40) 9 173 Try.f173 (encL [.list .bool, tI] (([true], 5) : List Bool × Int)) = some (.own .bool [true, true, true, true, true]) := by kernel_rfl
theorem f173.at6 : evFn (f173.E 40) 9 173 Try.f173 (encL [.list .bool, tI] (([true], 6) : List Bool × Int)) = some (.own .bool [true, true, true, true, true, true]) := by kernel_rfl
theorem f173.at7 : evFn (f173.E 40) 9 173 Try.f173 (encL [.list .bool, tI] (([true], 7) : List Bool × Int)) = some (.own .bool [true, true, true, true, true, true, true]) := by kernel_rfl
theorem f173.at8 : evFn (f173.E 40) 9 173 Try.f173 (encL [.list .bool, tI] (([true], 8) : List Bool × Int)) = some (.own .bool [true, true, true, true, true, true, true, true]) := by kernel_rfl
noncomputable def S173 : Summ := summ [.list .bool, tI] (List Bool) (fun (d : List Bool × Int) => chk (d.1 == [true] && decide (1 ≤ d.2 ∧ d.2 ≤ 8)) (some (List.replicate d.2.toNat (true)))) (.own .bool)
theorem ok173 : SumOk Try.prog 173 S173 :=
  sum_k hmix f173.E (fn := Try.f173) (code := f173.code) (by kernel_rfl) (by kernel_rfl) (by kernel_rfl) (fun _ => ttOk) f173.sums f173.inl fun (d : List Bool × Int) x hx => by
    obtain ⟨ys, n⟩ := d
    obtain ⟨hb, hx⟩ := chk_some hx
    obtain rfl := Option.some.inj hx
    rw [Bool.and_eq_true] at hb
    obtain rfl : ys = [true] := eq_of_beq hb.1
    have hn : 1 ≤ n ∧ n ≤ 8 := of_decide_eq_true hb.2
    refine ⟨40, ?_⟩
    obtain rfl | rfl | rfl | rfl | rfl | rfl | rfl | rfl : n = 1 ∨ n = 2 ∨ n = 3 ∨ n = 4 ∨ n = 5 ∨ n = 6 ∨ n = 7 ∨ n = 8 := by omega
    · exact f173.at1
    · exact f173.at2
    · exact f173.at3
    · exact f173.at4
    · exact f173.at5
    · exact f173.at6
    · exact f173.at7
    · exact f173.at8
end

section
set_option linter.unusedVariables false

/-- Numbers up to some number. -/
def upto (n : Nat) : List Int := (List.range n).map fun (i : Nat) => (i : Int)

/-- The arcs that begin at a vertex. -/
def rowA (gl : List Lk) (v : Int) : List Int := (upto (2 * gl.length)).filter fun a => arcFrom gl a == v

/-- All arcs, by where they begin. -/
def headsA (gl : List Lk) : List Int := (upto (2 * gl.length)).map (arcTo gl)
def orderA (gl : List Lk) (n : Nat) : List Int := (upto n).flatMap (rowA gl)
def startsA (gl : List Lk) (n : Nat) : List Int := (List.range (n + 1)).map fun v => ((orderA gl v).length : Int)

/-- A list within caps. -/
def withinF (f cs : List Int) : Bool := (f.length == cs.length) && (f.zip cs).all fun x => decide (0 ≤ x.1 ∧ x.1 ≤ x.2)
def liesB (g : Gr) (cs f : List Int) : Bool := capsMay g cs && withinF f cs

/-- What goes out of a vertex, less what goes in. -/
def gainV : List Lk → List Int → Int → Int
  | l :: ls, x :: xs, v => ((bif l.1 == v then x else 0) - (bif l.2.1 == v then x else 0)) + gainV ls xs v
  | _, _, _ => 0
def gainsOf (g : Gr) (f : List Int) : List Int := (upto g.1.toNat).map (gainV g.2 f)

/-- Is it a flow? -/
def stillB (g : Gr) (f : List Int) (src dst : Int) (v : Int) : Bool := !((v == src && decide (gainV g.2 f v < 0)) || (v != src && (v != dst && gainV g.2 f v != 0)))
def mayF (g : Gr) (cs f : List Int) (src dst : Int) : Bool :=
  liesB g cs f && (hasV g.1 src && (hasV g.1 dst && (!(src == dst) && (upto g.1.toNat).all (stillB g f src dst))))

/-- So much over an arc. -/
def moveA (f : List Int) (by_ a : Int) : List Int := f.set (arcL a).toNat (rdI f (arcL a) + bif backB a then -by_ else by_)
def moveL (cs : List Int) (by_ : Int) : List Int → List Int → Option (List Int)
  | f, [] => some f
  | f, a :: ws => bif decide (roomA cs f a < by_) then none else moveL cs by_ (moveA f by_ a) ws
def moveForm (g : Gr) (cs f : List Int) (by_ : Int) (ws : List Int) : Bool := liesB g cs f && (rateB by_ && (decide (ws.length ≤ 64) && ws.all (arcIn f.length)))
def moveOf (g : Gr) (cs f : List Int) (by_ : Int) (ws : List Int) : List Int × Int :=
  bif moveForm g cs f by_ ws then (match moveL cs by_ f ws with
    | some o => (o, 0)
    | none => ([], 901)) else ([], 900)

theorem upto_length (n : Nat) : (upto n).length = n := by simp [upto]
theorem upto_get {n i : Nat} (h : i < n) : (upto n)[i]? = some (i : Int) := by simp [upto, h]
theorem upto_mem {n : Nat} {a : Int} : a ∈ upto n ↔ 0 ≤ a ∧ a < (n : Int) := by
  simp only [upto, List.mem_map, List.mem_range]
  constructor
  · rintro ⟨i, hi, rfl⟩
    omega
  · rintro ⟨h0, h1⟩
    exact ⟨a.toNat, by omega, by omega⟩
theorem upto_succ (n : Nat) : upto (n + 1) = upto n ++ [(n : Int)] := by simp [upto, List.range_succ]
theorem upto_take {n i : Nat} (h : i ≤ n) : (upto n).take i = upto i := by
  simp only [upto, ← List.map_take, List.take_range]
  rw [Nat.min_eq_left h]

theorem withinF_len {f cs : List Int} (h : withinF f cs = true) : f.length = cs.length := by
  simp only [withinF, Bool.and_eq_true, beq_iff_eq] at h
  exact h.1
theorem withinF_get {f cs : List Int} (h : withinF f cs = true) {i : Nat} {x c : Int} (hx : f[i]? = some x) (hc : cs[i]? = some c) : 0 ≤ x ∧ x ≤ c := by
  simp only [withinF, Bool.and_eq_true, beq_iff_eq] at h
  have := List.all_eq_true.1 h.2 (x, c) (List.mem_of_getElem? (i := i) (by rw [List.getElem?_zip_eq_some]; exact ⟨hx, hc⟩))
  exact of_decide_eq_true this
theorem withinF_of {f cs : List Int} (hl : f.length = cs.length) (h : ∀ (i : Nat) (x c : Int), f[i]? = some x → cs[i]? = some c → 0 ≤ x ∧ x ≤ c) : withinF f cs = true := by
  simp only [withinF, Bool.and_eq_true, beq_iff_eq]
  refine ⟨hl, List.all_eq_true.2 fun y hy => ?_⟩
  obtain ⟨i, hi⟩ := List.mem_iff_getElem?.1 hy
  rw [List.getElem?_zip_eq_some] at hi
  exact decide_eq_true (h i y.1 y.2 hi.1 hi.2)

theorem withinL_of {cs : List Int} : ∀ {ls : List Lk}, cs.length = ls.length → (∀ (i : Nat) (c : Int) (l : Lk), cs[i]? = some c → ls[i]? = some l → 0 ≤ c ∧ c ≤ l.2.2) → withinL cs ls = true := by
  induction cs with
  | nil => intro ls hl _; cases ls with | nil => rfl | cons _ _ => simp at hl
  | cons c cs ih =>
    intro ls hl h
    cases ls with
    | nil => simp at hl
    | cons l ls =>
      simp only [withinL, Bool.and_eq_true]
      refine ⟨decide_eq_true (h 0 c l rfl rfl), ih (by simpa using hl) fun i c' l' hc' hl' => h (i + 1) c' l' (by simpa using hc') (by simpa using hl')⟩
theorem withinL_at : ∀ {cs : List Int} {ls : List Lk}, withinL cs ls = true → ∀ {i : Nat} {c : Int} {l : Lk}, cs[i]? = some c → ls[i]? = some l → 0 ≤ c ∧ c ≤ l.2.2
  | c :: cs, l :: ls, h, 0, c', l', hc, hl => by
    simp only [withinL, Bool.and_eq_true] at h
    simp only [List.getElem?_cons_zero, Option.some.injEq] at hc hl
    subst hc hl
    exact of_decide_eq_true h.1
  | c :: cs, l :: ls, h, i + 1, c', l', hc, hl => by
    simp only [withinL, Bool.and_eq_true] at h
    exact withinL_at h.2 (by simpa using hc) (by simpa using hl)
  | [], [], _, _, _, _, hc, _ => by simp at hc
  | [], _ :: _, h, _, _, _, _, _ => by simp [withinL] at h
  | _ :: _, [], h, _, _, _, _, _ => by simp [withinL] at h

theorem capsMay_len {g : Gr} {cs : List Int} (h : capsMay g cs = true) : cs.length = g.2.length := by
  simp only [capsMay, Bool.and_eq_true] at h
  exact withinL_len h.2

/-- A list within caps is caps, too. -/
theorem lies_caps {g : Gr} {cs f : List Int} (h : liesB g cs f = true) : capsMay g f = true := by
  simp only [liesB, capsMay, Bool.and_eq_true] at h ⊢
  refine ⟨h.1.1, withinL_of ((withinF_len h.2).trans (withinL_len h.1.2)) fun i x l hx hl => ?_⟩
  have hi : i < cs.length := by rw [← withinF_len h.2]; exact idx_lt hx
  have hc := List.getElem?_eq_getElem hi
  have h1 := withinF_get h.2 hx hc
  have h2 := withinL_at h.1.2 hc hl
  omega

theorem graphMay_parts {g : Gr} (h : graphMay g = true) : 2 ≤ g.1 ∧ g.1 ≤ 8 ∧ g.2.length ≤ 16 ∧ g.2.all (linkOk g.1) = true := by
  simp only [graphMay, shapeB, Bool.and_eq_true] at h
  have h1 := of_decide_eq_true h.1.1
  exact ⟨h1.1, h1.2, of_decide_eq_true h.1.2.1, h.1.2.2⟩

theorem link_at {g : Gr} (h : graphMay g = true) {i : Nat} {l : Lk} (hl : g.2[i]? = some l) : (0 ≤ l.1 ∧ l.1 < g.1) ∧ (0 ≤ l.2.1 ∧ l.2.1 < g.1) ∧ l.1 ≠ l.2.1 := by
  have := List.all_eq_true.1 (graphMay_parts h).2.2.2 l (List.mem_of_getElem? hl)
  simp only [linkOk, hasV, Bool.and_eq_true, Bool.not_eq_true', beq_eq_false_iff_ne] at this
  exact ⟨of_decide_eq_true this.1, of_decide_eq_true this.2.1, this.2.2⟩

/-- What numbers within caps are together. -/
theorem caps_sum {g : Gr} {f : List Int} (h : capsMay g f = true) : f.sum ≤ maxRate ∧ ∀ x ∈ f, 0 ≤ x := by
  simp only [capsMay, graphMay, Bool.and_eq_true] at h
  obtain ⟨⟨_, h1⟩, h2⟩ := h
  obtain ⟨t, ht⟩ := Option.isSome_iff_exists.1 h1
  have a := sumUp_lo _ _ _ ht (by omega) (by decide)
  have hs := sumUp_sum _ _ _ ht
  have e : (capsOf g).sum = (g.2.map fun l => l.2.2).sum := rfl
  have : f.sum ≤ (g.2.map fun l => l.2.2).sum := by
    clear ht hs a e h1
    generalize g.2 = ls at h2
    induction f generalizing ls with
    | nil => cases ls with | nil => simp | cons _ _ => simp [withinL] at h2
    | cons c cs ih =>
      cases ls with
      | nil => simp [withinL] at h2
      | cons l ls =>
        simp only [withinL, Bool.and_eq_true] at h2
        have := of_decide_eq_true h2.1
        have := ih ls h2.2
        simp only [List.sum_cons, List.map_cons]
        omega
  exact ⟨by omega, fun x hx => withinL_get h2 x hx⟩
end

section
set_option maxRecDepth 100000
set_option linter.unusedVariables false
noncomputable def f157.E (k : Nat) : Env := mkEnv tt [(156, S156)] [] [(157, 3, [.kill (rg [(0, 0), (3, 4), (6, 11), (14, 30)]), .tidy])] [] k
noncomputable def f157.code : Go.Code := (Go.Func.body Try.f157).getD .skip
noncomputable def f157.l0 (k n : Nat) (p0 : Int) (p1 : Int) (p2 : Int) (p3 : Int) (p4 : List (Int × Int × Int)) (p5 : List Int) : Option V :=
  atPath (f157.E k) n ⟨[.undef, (.int .i64 (p0)), (.ptr (524304 : Nat) ((0 : Nat)) ((0 : Nat))), .undef, .undef, (.slw (1310736 : Nat)), .undef, .undef, .undef, .undef, .undef, .undef, (.int .i64 (p1)), (.int .i64 (p2)), .undef, .undef, .undef, .undef, .undef, .undef, .undef, .undef, .undef, .undef, .undef, .undef, .undef, .undef, .undef, .undef, .undef], [], [((524304 : Nat), .box [(.int .i64 (p3)), (.ro (.pair (.int .i64) (.pair (.int .i64) (.int .i64))) (p4))]), ((1310736 : Nat), .row (.int .i64) (p5))]⟩ 9 0 157 [.c 1, .c 1, .c 0, .c 1, .c 0] [] f157.code (finK tt Try.f157)
theorem f157.l0_eq (k n : Nat) (p0 : Int) (p1 : Int) (p2 : Int) (p3 : Int) (p4 : List (Int × Int × Int)) (p5 : List Int) : f157.l0 k (n + 1) p0 p1 p2 p3 p4 p5 =
  bif decide (p2 < p1) then ((chk (decide (p4.length ≤ (16 : Nat)) && arcIn p4.length p2) (some ((arcFrom p4 p2, arcTo p4 p2)))).bind (fun y0 => bif y0.fst == p0 then (chk (decide ((p5 ++ [p2]).length * (8 : Nat) ≤ (140737488355328 : Nat))) (f157.l0 k n (p0) (p1) (Go.IntKind.i64.wrap (p2 + (1 : Int))) (p3) (p4) (p5 ++ [p2]))) else (f157.l0 k n (p0) (p1) (Go.IntKind.i64.wrap (p2 + (1 : Int))) (p3) (p4) (p5)))) else (some (.own (.int .i64) (p5))) := by kernel_rfl
theorem f157.eq (k : Nat) (x0 : Int × List (Int × Int × Int)) (x1 : Int) : evFn (f157.E k) 9 157 Try.f157 [(.agg [(.int .i64 (x0.fst)), (.ro (.pair (.int .i64) (.pair (.int .i64) (.int .i64))) (x0.snd))]), (.int .i64 (x1))] =
  f157.l0 k k (x1) (Go.IntKind.i64.wrap ((2 : Int) * (↑(List.length x0.snd) : Int))) ((0 : Int)) (x0.fst) (x0.snd) ([]) := by kernel_rfl
theorem f157.inl (k : Nat) : InlOk Try.prog (f157.E k) := inl_nil
theorem f157.sums (k : Nat) : SumsOk Try.prog (f157.E k) := (sums_cons ok156 sums_nil)
noncomputable def f137.E (k : Nat) : Env := mkEnv tt [(95, S95)] [] [(137, 4, [.kill (rg [(0, 0), (2, 19), (23, 37)]), .tidy])] [] k
noncomputable def f137.code : Go.Code := (Go.Func.body Try.f137).getD .skip
noncomputable def f137.l0 (k n : Nat) (p0 : List Int) (p1 : List Int) (p2 : Int) (p3 : Int) : Option V :=
  atPath (f137.E k) n ⟨[.undef, (.ro (.int .i64) (p0)), .undef, .undef, .undef, .undef, .undef, .undef, .undef, .undef, .undef, .undef, .undef, .undef, .undef, .undef, .undef, .undef, .undef, .undef, (.ro (.int .i64) (p1)), (.int .i64 (p2)), (.int .i64 (p3)), .undef, .undef, .undef, .undef, .undef, .undef, .undef, .undef, .undef, .undef, .undef, .undef, .undef, .undef, .undef], [], []⟩ 9 0 137 [.c 1, .c 1, .c 0, .c 1, .c 0] [] f137.code (finK tt Try.f137)
theorem f137.l0_eq (k n : Nat) (p0 : List Int) (p1 : List Int) (p2 : Int) (p3 : Int) : f137.l0 k (n + 1) p0 p1 p2 p3 =
  bif decide (p3 < p2) then (chk (decide ((0 : Int) ≤ p3 ∧ p3 < (↑p1.length : Int))) (bif decide (rd (Ty.int Go.IntKind.i64) p1 p3 < (0 : Int)) then (some (.bool (false))) else (chk (decide ((0 : Int) ≤ p3 ∧ p3 < (↑p0.length : Int))) (bif decide (rd (Ty.int Go.IntKind.i64) p1 p3 > rd (Ty.int Go.IntKind.i64) p0 p3) then (some (.bool (false))) else (f137.l0 k n (p0) (p1) (p2) (Go.IntKind.i64.wrap (p3 + (1 : Int)))))))) else (some (.bool (true))) := by kernel_rfl
theorem f137.eq (k : Nat) (x0 : Int × List (Int × Int × Int)) (x1 : List Int) (x2 : List Int) : evFn (f137.E k) 9 137 Try.f137 [(.agg [(.int .i64 (x0.fst)), (.ro (.pair (.int .i64) (.pair (.int .i64) (.int .i64))) (x0.snd))]), (.ro (.int .i64) (x1)), (.ro (.int .i64) (x2))] =
  bif !capsMay x0 x1 then (some (.bool (false))) else (bif (↑x2.length : Int) != (↑x1.length : Int) then (some (.bool (false))) else (f137.l0 k k (x1) (x2) ((↑x2.length : Int)) ((0 : Int)))) := by kernel_rfl
theorem f137.inl (k : Nat) : InlOk Try.prog (f137.E k) := inl_nil
theorem f137.sums (k : Nat) : SumsOk Try.prog (f137.E k) := (sums_cons ok95 sums_nil)
noncomputable def f140.E (k : Nat) : Env := mkEnv tt [] [] [(140, 3, [.kill (rg [(0, 0), (2, 4), (6, 11), (15, 42)]), .tidy])] [] k
noncomputable def f140.code : Go.Code := (Go.Func.body Try.f140).getD .skip
noncomputable def f140.l0 (k n : Nat) (p0 : List Int) (p1 : List (Int × Int × Int)) (p2 : Int) (p3 : Int) (p4 : List Int) : Option V :=
  atPath (f140.E k) n ⟨[.undef, (.ro (.int .i64) (p0)), .undef, .undef, .undef, (.slw (1310736 : Nat)), .undef, .undef, .undef, .undef, .undef, .undef, (.ro (.pair (.int .i64) (.pair (.int .i64) (.int .i64))) (p1)), (.int .i64 (p2)), (.int .i64 (p3)), .undef, .undef, .undef, .undef, .undef, .undef, .undef, .undef, .undef, .undef, .undef, .undef, .undef, .undef, .undef, .undef, .undef, .undef, .undef, .undef, .undef, .undef, .undef, .undef, .undef, .undef, .undef, .undef], [], [((1310736 : Nat), .row (.int .i64) (p4))]⟩ 9 0 140 [.c 1, .c 1, .c 0, .c 1, .c 0] [] f140.code (finK tt Try.f140)
theorem f140.l0_eq (k n : Nat) (p0 : List Int) (p1 : List (Int × Int × Int)) (p2 : Int) (p3 : Int) (p4 : List Int) : f140.l0 k (n + 1) p0 p1 p2 p3 p4 =
  bif decide (p3 < p2) then (chk (decide ((0 : Int) ≤ p3 ∧ p3 < (↑p1.length : Int))) (chk (decide ((0 : Int) ≤ (rd ((Ty.int Go.IntKind.i64).pair ((Ty.int Go.IntKind.i64).pair (Ty.int Go.IntKind.i64))) p1 p3).fst ∧ (rd ((Ty.int Go.IntKind.i64).pair ((Ty.int Go.IntKind.i64).pair (Ty.int Go.IntKind.i64))) p1 p3).fst < (↑p4.length : Int))) (chk (decide ((0 : Int) ≤ p3 ∧ p3 < (↑p0.length : Int))) (chk (decide ((0 : Int) ≤ (rd ((Ty.int Go.IntKind.i64).pair ((Ty.int Go.IntKind.i64).pair (Ty.int Go.IntKind.i64))) p1 p3).fst ∧ (rd ((Ty.int Go.IntKind.i64).pair ((Ty.int Go.IntKind.i64).pair (Ty.int Go.IntKind.i64))) p1 p3).fst < (↑p4.length : Int))) (chk (decide ((0 : Int) ≤ (rd ((Ty.int Go.IntKind.i64).pair ((Ty.int Go.IntKind.i64).pair (Ty.int Go.IntKind.i64))) p1 p3).snd.fst ∧ (rd ((Ty.int Go.IntKind.i64).pair ((Ty.int Go.IntKind.i64).pair (Ty.int Go.IntKind.i64))) p1 p3).snd.fst < (↑(p4.set (Int.toNat (rd ((Ty.int Go.IntKind.i64).pair ((Ty.int Go.IntKind.i64).pair (Ty.int Go.IntKind.i64))) p1 p3).fst) (Go.IntKind.i64.wrap (rd (Ty.int Go.IntKind.i64) p4 (↑(Int.toNat (rd ((Ty.int Go.IntKind.i64).pair ((Ty.int Go.IntKind.i64).pair (Ty.int Go.IntKind.i64))) p1 p3).fst) : Int) + rd (Ty.int Go.IntKind.i64) p0 p3))).length : Int))) (chk (decide ((0 : Int) ≤ p3 ∧ p3 < (↑p0.length : Int))) (chk (decide ((0 : Int) ≤ (rd ((Ty.int Go.IntKind.i64).pair ((Ty.int Go.IntKind.i64).pair (Ty.int Go.IntKind.i64))) p1 p3).snd.fst ∧ (rd ((Ty.int Go.IntKind.i64).pair ((Ty.int Go.IntKind.i64).pair (Ty.int Go.IntKind.i64))) p1 p3).snd.fst < (↑(p4.set (Int.toNat (rd ((Ty.int Go.IntKind.i64).pair ((Ty.int Go.IntKind.i64).pair (Ty.int Go.IntKind.i64))) p1 p3).fst) (Go.IntKind.i64.wrap (rd (Ty.int Go.IntKind.i64) p4 (↑(Int.toNat (rd ((Ty.int Go.IntKind.i64).pair ((Ty.int Go.IntKind.i64).pair (Ty.int Go.IntKind.i64))) p1 p3).fst) : Int) + rd (Ty.int Go.IntKind.i64) p0 p3))).length : Int))) (f140.l0 k n (p0) (p1) (p2) (Go.IntKind.i64.wrap (p3 + (1 : Int))) ((p4.set (Int.toNat (rd ((Ty.int Go.IntKind.i64).pair ((Ty.int Go.IntKind.i64).pair (Ty.int Go.IntKind.i64))) p1 p3).fst) (Go.IntKind.i64.wrap (rd (Ty.int Go.IntKind.i64) p4 (↑(Int.toNat (rd ((Ty.int Go.IntKind.i64).pair ((Ty.int Go.IntKind.i64).pair (Ty.int Go.IntKind.i64))) p1 p3).fst) : Int) + rd (Ty.int Go.IntKind.i64) p0 p3))).set (Int.toNat (rd ((Ty.int Go.IntKind.i64).pair ((Ty.int Go.IntKind.i64).pair (Ty.int Go.IntKind.i64))) p1 p3).snd.fst) (Go.IntKind.i64.wrap (rd (Ty.int Go.IntKind.i64) (p4.set (Int.toNat (rd ((Ty.int Go.IntKind.i64).pair ((Ty.int Go.IntKind.i64).pair (Ty.int Go.IntKind.i64))) p1 p3).fst) (Go.IntKind.i64.wrap (rd (Ty.int Go.IntKind.i64) p4 (↑(Int.toNat (rd ((Ty.int Go.IntKind.i64).pair ((Ty.int Go.IntKind.i64).pair (Ty.int Go.IntKind.i64))) p1 p3).fst) : Int) + rd (Ty.int Go.IntKind.i64) p0 p3))) (↑(Int.toNat (rd ((Ty.int Go.IntKind.i64).pair ((Ty.int Go.IntKind.i64).pair (Ty.int Go.IntKind.i64))) p1 p3).snd.fst) : Int) - rd (Ty.int Go.IntKind.i64) p0 p3))))))))))) else (some (.own (.int .i64) (p4))) := by kernel_rfl
theorem f140.eq (k : Nat) (x0 : Int × List (Int × Int × Int)) (x1 : List Int) : evFn (f140.E k) 9 140 Try.f140 [(.agg [(.int .i64 (x0.fst)), (.ro (.pair (.int .i64) (.pair (.int .i64) (.int .i64))) (x0.snd))]), (.ro (.int .i64) (x1))] =
  chk (decide ((0 : Int) ≤ x0.fst ∧ x0.fst ≤ x0.fst)) (chk (decide ((0 : Nat) < (8 : Nat) ∧ x0.fst * (↑(8 : Nat) : Int) ≤ (140737488355328 : Int))) (f140.l0 k k (x1) (x0.snd) ((↑(List.length x0.snd) : Int)) ((0 : Int)) (List.replicate (Int.toNat x0.fst) (dflt (Ty.int Go.IntKind.i64))))) := by kernel_rfl
theorem f140.inl (k : Nat) : InlOk Try.prog (f140.E k) := inl_nil
theorem f140.sums (k : Nat) : SumsOk Try.prog (f140.E k) := sums_nil
end

section
set_option linter.unusedVariables false

theorem drop_filter {α : Type} (p : α → Bool) {l : List α} {i : Nat} (h : i < l.length) : (l.drop i).filter p = bif p l[i] then l[i] :: (l.drop (i + 1)).filter p else (l.drop (i + 1)).filter p := by
  rw [List.drop_eq_getElem_cons h, List.filter_cons]
  cases p l[i] <;> rfl

noncomputable def S157 : Summ := summ [tG, tI] (List Int) (fun (d : Gr × Int) => chk (decide (d.1.2.length ≤ 16)) (some (rowA d.1.2 d.2))) (.own tI)
theorem f157.l0_is (k : Nat) (v g0 : Int) (gl : List Lk) (hl : gl.length ≤ 16) : ∀ (n i : Nat) (o : List Int), i ≤ 2 * gl.length → 2 * gl.length < n + i → o.length ≤ i →
    f157.l0 k n v ((2 * gl.length : Nat) : Int) (i : Int) g0 gl o = some (.own tI (o ++ ((upto (2 * gl.length)).drop i).filter fun a => arcFrom gl a == v))
  | 0, i, o, h, h', _ => by omega
  | n + 1, i, o, h, h', ho => by
    by_cases hlt : i < 2 * gl.length
    · have hu : i < (upto (2 * gl.length)).length := by rw [upto_length]; exact hlt
      have hg : (upto (2 * gl.length))[i] = (i : Int) := (List.getElem?_eq_some_iff.1 (upto_get hlt)).2
      rw [f157.l0_eq, show decide ((i : Int) < ((2 * gl.length : Nat) : Int)) = true from decide_eq_true (by omega), cT, decide_eq_true hl, Bool.true_and,
        show arcIn gl.length (i : Int) = true from decide_eq_true (by omega), kT, bS, wrap_succ (by omega), drop_filter _ hu, hg]
      simp only
      cases arcFrom gl (i : Int) == v with
      | true =>
        rw [cT, cT, chk_eq (decide_eq_true (by rw [List.length_append, List.length_singleton]; omega)), f157.l0_is k v g0 gl hl n (i + 1) _ (by omega) (by omega) (by rw [List.length_append, List.length_singleton]; omega), List.append_assoc]
        rfl
      | false => rw [cF, cF, f157.l0_is k v g0 gl hl n (i + 1) _ (by omega) (by omega) (by omega)]
    · obtain rfl : i = 2 * gl.length := by omega
      rw [f157.l0_eq, show decide (((2 * gl.length : Nat) : Int) < ((2 * gl.length : Nat) : Int)) = false from decide_eq_false (by omega), cF, List.drop_eq_nil_of_le (by rw [upto_length]; omega), List.filter_nil, List.append_nil]
theorem ok157 : SumOk Try.prog 157 S157 :=
  sum_k hmix f157.E (fn := Try.f157) (code := f157.code) (by kernel_rfl) (by kernel_rfl) (by kernel_rfl) (fun _ => ttOk) f157.sums f157.inl fun (d : Gr × Int) x hx => by
    obtain ⟨hb, hx⟩ := chk_some hx
    obtain rfl := Option.some.inj hx
    have hb := of_decide_eq_true hb
    refine ⟨33, (f157.eq _ d.1 d.2).trans ?_⟩
    rw [wrap64 (by omega), show (2 : Int) * (d.1.2.length : Int) = ((2 * d.1.2.length : Nat) : Int) by omega]
    exact f157.l0_is _ d.2 d.1.1 d.1.2 hb _ 0 [] (by omega) (by omega) (by simp)

def outB (x : Int × Int) : Bool := !decide (0 ≤ x.1 ∧ x.1 ≤ x.2)
noncomputable def S137 : Summ := summ [tG, tL, tL] Bool (fun (d : Gr × (List Int × List Int)) => some (liesB d.1 d.2.1 d.2.2)) .bool
theorem f137.l0_is (k : Nat) (cs f : List Int) (hl : f.length = cs.length) (hc : cs.length ≤ 16) : f137.l0 (k + 17) (k + 17) cs f (f.length : Int) 0 = some (.bool (withinF f cs)) := by
  have hz : (f.zip cs).length = f.length := by simp [hl]
  refine (loop_any0 (fun n i => f137.l0 (k + 17) n cs f (f.length : Int) (i : Nat)) (f.zip cs) outB (some (.bool false)) (some (.bool true)) (fun n i x hx => by
    obtain ⟨ha, hb⟩ := zip_get hx
    have := idx_lt ha
    rw [f137.l0_eq, idx_lt' ha, idx_in ha, idx_in hb, rd_some (t := tI) ha, rd_some (t := tI) hb, wrap_succ (by omega), cT, kT, kT]
    unfold outB
    by_cases h1 : x.1 < 0
    · rw [show decide (x.1 < 0) = true from decide_eq_true h1, cT, show decide (0 ≤ x.1 ∧ x.1 ≤ x.2) = false from decide_eq_false (by omega), Bool.not_false, cT]
    · by_cases h2 : x.1 > x.2
      · rw [show decide (x.1 < 0) = false from decide_eq_false h1, cF, show decide (x.1 > x.2) = true from decide_eq_true h2, cT, show decide (0 ≤ x.1 ∧ x.1 ≤ x.2) = false from decide_eq_false (by omega), Bool.not_false, cT]
      · rw [show decide (x.1 < 0) = false from decide_eq_false h1, cF, show decide (x.1 > x.2) = false from decide_eq_false h2, cF, show decide (0 ≤ x.1 ∧ x.1 ≤ x.2) = true from decide_eq_true (by omega), Bool.not_true, cF]) (fun n => by
    rw [hz, f137.l0_eq, end_lt, cF]) (n := k + 17) (by omega)).trans ?_
  unfold withinF
  rw [show (f.length == cs.length) = true by simpa using hl, Bool.true_and]
  have : (f.zip cs).any outB = !(f.zip cs).all fun x => decide (0 ≤ x.1 ∧ x.1 ≤ x.2) := by
    generalize f.zip cs = z
    induction z with
    | nil => rfl
    | cons y z ih => rw [List.any_cons, List.all_cons, ih, Bool.not_and]; rfl
  rw [this]
  cases (f.zip cs).all fun x => decide (0 ≤ x.1 ∧ x.1 ≤ x.2) <;> rfl
theorem ok137 : SumOk Try.prog 137 S137 :=
  sum_k hmix f137.E (fn := Try.f137) (code := f137.code) (by kernel_rfl) (by kernel_rfl) (by kernel_rfl) (fun _ => ttOk) f137.sums f137.inl fun (d : Gr × (List Int × List Int)) x hx => by
    obtain rfl := Option.some.inj hx
    refine ⟨17, (f137.eq _ d.1 d.2.1 d.2.2).trans ?_⟩
    unfold liesB
    cases hc : capsMay d.1 d.2.1 with
    | false => rw [Bool.not_false, cT, Bool.false_and]
    | true =>
      rw [Bool.not_true, cF, Bool.true_and]
      by_cases hl : d.2.2.length = d.2.1.length
      · have := capsMay_len hc
        have := (graphMay_parts (caps_graph hc)).2.2.1
        rw [show ((d.2.2.length : Int) != (d.2.1.length : Int)) = false by simp [hl], cF]
        exact f137.l0_is 0 d.2.1 d.2.2 hl (by omega)
      · rw [show ((d.2.2.length : Int) != (d.2.1.length : Int)) = true by simp; omega, cT]
        unfold withinF
        rw [show (d.2.2.length == d.2.1.length) = false by simpa using hl, Bool.false_and]

/-! Gains. -/
def gStep (o : List Int) (l : Lk) (x : Int) : List Int := (o.set l.1.toNat (rdI o l.1 + x)).set l.2.1.toNat (rdI (o.set l.1.toNat (rdI o l.1 + x)) l.2.1 - x)

theorem rdI_nat (o : List Int) (k : Int) : rdI o (k.toNat : Int) = rdI o k := by unfold rdI rd; rw [Int.toNat_natCast]
theorem rdI_set {o : List Int} {i j : Int} {x : Int} (hi : 0 ≤ i ∧ i < (o.length : Int)) (hj : 0 ≤ j ∧ j < (o.length : Int)) : rdI (o.set i.toNat x) j = bif i == j then x else rdI o j := by
  unfold rdI rd
  rw [List.getD_eq_getElem?_getD, List.getD_eq_getElem?_getD, List.getElem?_set]
  by_cases h : i = j
  · subst h
    rw [if_pos rfl, if_pos (by omega), show (i == i) = true by simp, cT]
    rfl
  · rw [if_neg (by omega), show (i == j) = false by simpa using h, cF]

theorem gStep_len (o : List Int) (l : Lk) (x : Int) : (gStep o l x).length = o.length := by simp [gStep]
theorem gStep_at {o : List Int} {l : Lk} {x v : Int} (h1 : 0 ≤ l.1 ∧ l.1 < (o.length : Int)) (h2 : 0 ≤ l.2.1 ∧ l.2.1 < (o.length : Int)) (hv : 0 ≤ v ∧ v < (o.length : Int)) (hne : l.1 ≠ l.2.1) :
    rdI (gStep o l x) v = rdI o v + ((bif l.1 == v then x else 0) - (bif l.2.1 == v then x else 0)) := by
  unfold gStep
  rw [rdI_set (by simpa using h2) (by simpa using hv), rdI_set h1 h2, rdI_set h1 hv, show (l.1 == l.2.1) = false by simpa using hne, cF]
  by_cases e2 : l.2.1 = v
  · subst e2
    rw [show (l.2.1 == l.2.1) = true by simp, cT, cT, show (l.1 == l.2.1) = false by simpa using hne, cF]
    omega
  · rw [show (l.2.1 == v) = false by simpa using e2, cF, cF]
    by_cases e1 : l.1 = v
    · subst e1
      rw [show (l.1 == l.1) = true by simp, cT, cT]
      omega
    · rw [show (l.1 == v) = false by simpa using e1, cF, cF]
      omega

theorem upto_map_rdI (o : List Int) : (upto o.length).map (fun v => rdI o v) = o := by
  apply List.ext_getElem?
  intro i
  rw [List.getElem?_map]
  by_cases h : i < o.length
  · rw [upto_get h, List.getElem?_eq_getElem h, Option.map_some, rdI_some (List.getElem?_eq_getElem h)]
  · rw [List.getElem?_eq_none (by rw [upto_length]; omega), List.getElem?_eq_none (by omega)]
    rfl

theorem f140.step (k n : Nat) {f : List Int} {gl : List Lk} {i : Nat} {o : List Int} {l : Lk} {x : Int} (hg : gl[i]? = some l) (hx : f[i]? = some x) (hi : i < 4611686018427387904) (h1 : 0 ≤ l.1 ∧ l.1 < (o.length : Int)) (h2 : 0 ≤ l.2.1 ∧ l.2.1 < (o.length : Int)) (hne : l.1 ≠ l.2.1)
    (hb1 : -maxRate ≤ rdI o l.1 + x ∧ rdI o l.1 + x ≤ maxRate) (hb2 : -maxRate ≤ rdI o l.2.1 - x ∧ rdI o l.2.1 - x ≤ maxRate) :
    f140.l0 k (n + 1) f gl (gl.length : Int) (i : Int) o = f140.l0 k n f gl (gl.length : Int) ((i + 1 : Nat) : Int) (gStep o l x) := by
  have hM : maxRate = 4611686018427387904 := rfl
  have e1 : Go.IntKind.i64.wrap (rd (Ty.int Go.IntKind.i64) o ((l.1.toNat : Nat) : Int) + x) = rdI o l.1 + x := by rw [rdI_eq, rdI_nat]; exact wrap64 (by omega)
  have e2 : Go.IntKind.i64.wrap (rd (Ty.int Go.IntKind.i64) (o.set l.1.toNat (rdI o l.1 + x)) ((l.2.1.toNat : Nat) : Int) - x) = rdI (o.set l.1.toNat (rdI o l.1 + x)) l.2.1 - x := by
    rw [rdI_eq, rdI_nat]
    rw [rdI_set h1 h2, show (l.1 == l.2.1) = false by simpa using hne, cF]
    exact wrap64 (by omega)
  rw [f140.l0_eq, idx_lt' hg, idx_in hg, idx_in hx, rd_some (t := tLk) hg, rd_some (t := tI) hx, wrap_succ hi, cT, kT, kT]
  rw [e1]
  rw [e2]
  rw [List.length_set, show decide (0 ≤ l.1 ∧ l.1 < (o.length : Int)) = true from decide_eq_true h1, show decide (0 ≤ l.2.1 ∧ l.2.1 < (o.length : Int)) = true from decide_eq_true h2, kT, kT, kT, kT, kT]
  rfl

theorem f140.l0_is (k : Nat) (f : List Int) (gl : List Lk) (m : Nat) (hl : f.length = gl.length) (h16 : gl.length ≤ 16) (h0 : ∀ x ∈ f, 0 ≤ x)
    (hok : ∀ (i : Nat) (l : Lk), gl[i]? = some l → (0 ≤ l.1 ∧ l.1 < (m : Int)) ∧ (0 ≤ l.2.1 ∧ l.2.1 < (m : Int)) ∧ l.1 ≠ l.2.1) : ∀ (n i : Nat) (o : List Int), i ≤ gl.length → gl.length < n + i → o.length = m →
    (∀ v, 0 ≤ v ∧ v < (m : Int) → -maxRate ≤ rdI o v - (f.drop i).sum ∧ rdI o v + (f.drop i).sum ≤ maxRate) →
    f140.l0 k n f gl (gl.length : Int) (i : Int) o = some (.own tI ((upto m).map fun v => rdI o v + gainV (gl.drop i) (f.drop i) v))
  | 0, i, o, h, h', _, _ => by omega
  | n + 1, i, o, h, h', ho, hb => by
    by_cases hlt : i < gl.length
    · have hg := List.getElem?_eq_getElem hlt
      have hif : i < f.length := by omega
      have hx := List.getElem?_eq_getElem hif
      obtain ⟨a1, a2, a3⟩ := hok i _ hg
      have hd : (f.drop i).sum = f[i] + (f.drop (i + 1)).sum := by rw [List.drop_eq_getElem_cons hif, List.sum_cons]
      have hp : 0 ≤ f[i] := h0 _ (List.getElem_mem hif)
      have hs : 0 ≤ (f.drop (i + 1)).sum := sum_nonneg' _ fun y hy => h0 y (List.mem_of_mem_drop hy)
      have b1 := hb _ a1
      have b2 := hb _ a2
      rw [f140.step k n hg hx (by omega) (by omega) (by omega) a3 (by omega) (by omega)]
      rw [f140.l0_is k f gl m hl h16 h0 hok n (i + 1) _ (by omega) (by omega) (by rw [gStep_len]; exact ho) (fun v hv => by
        have b := hb v hv
        rw [gStep_at (by omega) (by omega) (by omega) a3]
        cases e1 : gl[i].1 == v <;> cases e2 : gl[i].2.1 == v <;> simp only [cT, cF] <;> first | omega | exact absurd ((eq_of_beq e1).trans (eq_of_beq e2).symm) a3)]
      refine congrArg (fun z => some (V.own tI z)) (List.map_congr_left fun v hv => ?_)
      have hv := upto_mem.1 hv
      rw [gStep_at (by omega) (by omega) (by omega) a3, List.drop_eq_getElem_cons hlt, List.drop_eq_getElem_cons hif]
      exact Int.add_assoc _ _ _
    · obtain rfl : i = gl.length := by omega
      rw [f140.l0_eq, end_lt, cF, List.drop_length]
      refine congrArg (fun z => some (V.own tI z)) ?_
      refine (upto_map_rdI o).symm.trans ?_
      rw [ho]
      exact List.map_congr_left fun v _ => by simp only [gainV]; omega

noncomputable def S140 : Summ := summ [tG, tL] (List Int) (fun (d : Gr × List Int) => chk (capsMay d.1 d.2) (some (gainsOf d.1 d.2))) (.own tI)
theorem ok140 : SumOk Try.prog 140 S140 :=
  sum_k hmix f140.E (fn := Try.f140) (code := f140.code) (by kernel_rfl) (by kernel_rfl) (by kernel_rfl) (fun _ => ttOk) f140.sums f140.inl fun (d : Gr × List Int) x hx => by
    obtain ⟨hb, hx⟩ := chk_some hx
    obtain rfl := Option.some.inj hx
    have hg := caps_graph hb
    have hp := graphMay_parts hg
    obtain ⟨hs, h0⟩ := caps_sum hb
    have hn := sum_nonneg' _ h0
    refine ⟨17, (f140.eq _ d.1 d.2).trans ?_⟩
    rw [chk_eq (decide_eq_true (by omega)), chk_eq (decide_eq_true (by omega))]
    have hz : ∀ v : Int, rdI (List.replicate d.1.1.toNat 0) v = 0 := fun v => by
      unfold rdI rd
      rw [List.getD_eq_getElem?_getD, List.getElem?_replicate]
      split <;> rfl
    refine (f140.l0_is _ d.2 d.1.2 d.1.1.toNat (capsMay_len hb) hp.2.2.1 h0 (fun i l hl => ?_) 17 0 (List.replicate d.1.1.toNat 0) (by omega) (by omega) (by simp) (fun v hv => ?_)).trans ?_
    · have := link_at hg hl
      omega
    · rw [hz, List.drop_zero]
      omega
    · refine congrArg (fun z => some (V.own tI z)) (List.map_congr_left fun v _ => ?_)
      rw [hz, List.drop_zero, List.drop_zero, Int.zero_add]
end

section
set_option linter.unusedVariables false

theorem rdI_get {f : List Int} {i : Int} (h : 0 ≤ i ∧ i < (f.length : Int)) : f[i.toNat]? = some (rdI f i) := by
  have hl : i.toNat < f.length := by omega
  rw [List.getElem?_eq_getElem hl]
  have := rdI_some (List.getElem?_eq_getElem hl)
  rw [show ((i.toNat : Nat) : Int) = i by omega] at this
  rw [this]

theorem arcL_lt {n : Nat} {a : Int} (h : arcIn n a = true) : 0 ≤ arcL a ∧ arcL a < (n : Int) := of_decide_eq_true (arcL_in h)

theorem mem_le_sum : ∀ {xs : List Int}, (∀ x ∈ xs, 0 ≤ x) → ∀ {x : Int}, x ∈ xs → x ≤ xs.sum
  | y :: ys, h, x, hx => by
    have h0 := sum_nonneg' ys fun z hz => h z (by simp [hz])
    have hy := h y (by simp)
    rw [List.sum_cons]
    rcases List.mem_cons.1 hx with rfl | hx
    · omega
    · have := mem_le_sum (fun z hz => h z (by simp [hz])) hx
      omega

theorem caps_le {g : Gr} {cs : List Int} (h : capsMay g cs = true) {c : Int} (hc : c ∈ cs) : 0 ≤ c ∧ c ≤ maxRate := by
  obtain ⟨h1, h2⟩ := caps_sum h
  have := mem_le_sum h2 hc
  exact ⟨h2 c hc, by omega⟩

/-- Within caps, by index. -/
theorem within_at {f cs : List Int} (h : withinF f cs = true) {i : Int} (hi : 0 ≤ i ∧ i < (cs.length : Int)) : 0 ≤ rdI f i ∧ rdI f i ≤ rdI cs i := by
  have hl := withinF_len h
  exact withinF_get h (rdI_get (by omega)) (rdI_get hi)

theorem room_rate {g : Gr} {cs f : List Int} (hc : capsMay g cs = true) (h : withinF f cs = true) {a : Int} (ha : arcIn cs.length a = true) : rateB (roomA cs f a) = true := by
  have hl := arcL_lt ha
  have h1 := within_at h hl
  have h2 := caps_le hc (List.mem_of_getElem? (rdI_get hl))
  unfold roomA
  cases backB a with
  | true => rw [cT]; exact decide_eq_true ⟨by omega, by omega⟩
  | false => rw [cF]; exact decide_eq_true ⟨by omega, by omega⟩

theorem moveA_len (f : List Int) (b a : Int) : (moveA f b a).length = f.length := by simp [moveA]
theorem moveA_at {f : List Int} {b a i : Int} (ha : 0 ≤ arcL a ∧ arcL a < (f.length : Int)) (hi : 0 ≤ i ∧ i < (f.length : Int)) :
    rdI (moveA f b a) i = bif arcL a == i then rdI f (arcL a) + (bif backB a then -b else b) else rdI f i := rdI_set ha hi

theorem withinF_by {f cs : List Int} (hl : f.length = cs.length) (h : ∀ i : Int, 0 ≤ i ∧ i < (cs.length : Int) → 0 ≤ rdI f i ∧ rdI f i ≤ rdI cs i) : withinF f cs = true :=
  withinF_of hl fun i x c hx hc => by
    have := h i ⟨by omega, by have := idx_lt hc; omega⟩
    rw [rdI_some hx, rdI_some hc] at this
    exact this

theorem moveA_within {f cs : List Int} {b a : Int} (h : withinF f cs = true) (ha : arcIn cs.length a = true) (hb : 0 ≤ b) (hr : b ≤ roomA cs f a) : withinF (moveA f b a) cs = true := by
  have hl := withinF_len h
  have hL := arcL_lt ha
  refine withinF_by (by rw [moveA_len]; exact hl) fun i hi => ?_
  rw [moveA_at (by omega) (by omega)]
  have h1 := within_at h hi
  by_cases he : arcL a = i
  · subst he
    rw [show (arcL a == arcL a) = true by simp, cT]
    unfold roomA at hr
    cases hk : backB a with
    | true => rw [hk, cT] at hr; rw [cT]; omega
    | false => rw [hk, cF] at hr; rw [cF]; omega
  · rw [show (arcL a == i) = false by simpa using he, cF]
    exact h1

theorem moveL_within {cs : List Int} {b : Int} (hb : 0 ≤ b) : ∀ {ws : List Int} {f o : List Int}, withinF f cs = true → ws.all (arcIn cs.length) = true → moveL cs b f ws = some o → withinF o cs = true
  | [], f, o, h, _, hm => by
    simp only [moveL, Option.some.injEq] at hm
    exact hm ▸ h
  | a :: ws, f, o, h, hw, hm => by
    simp only [moveL] at hm
    rw [List.all_cons, Bool.and_eq_true] at hw
    cases hd : decide (roomA cs f a < b) with
    | true => rw [hd, cT] at hm; cases hm
    | false =>
      rw [hd, cF] at hm
      have hd := of_decide_eq_false hd
      exact moveL_within hb (moveA_within h hw.1 hb (by omega)) hw.2 hm

theorem orderA_succ (gl : List Lk) (n : Nat) : orderA gl (n + 1) = orderA gl n ++ rowA gl n := by
  unfold orderA
  rw [upto_succ, List.flatMap_append]
  simp
theorem rowA_len (gl : List Lk) (v : Int) : (rowA gl v).length ≤ 2 * gl.length := by
  unfold rowA
  refine Nat.le_trans (List.length_filter_le _ _) ?_
  rw [upto_length]
  exact Nat.le_refl _
theorem orderA_len (gl : List Lk) : ∀ n : Nat, (orderA gl n).length ≤ n * (2 * gl.length)
  | 0 => by simp [orderA, upto]
  | n + 1 => by
    have := orderA_len gl n
    have := rowA_len gl n
    rw [orderA_succ, List.length_append, Nat.add_mul]
    omega
end

section
set_option maxRecDepth 100000
set_option linter.unusedVariables false
noncomputable def f132.E (k : Nat) : Env := mkEnv tt [(104, S104), (156, S156), (157, S157)] [] [(132, 11, [.nil1 4 0 1048581 (.int .i64), .nil1 4 1 1048645 (.int .i64), .nil1 4 2 1048709 (.int .i64), .kill (rg [(0, 0), (3, 3), (5, 33), (36, 62)]), .tidy]), (132, 5, [.nil1 4 0 1048581 (.int .i64), .nil1 4 1 1048645 (.int .i64), .nil1 4 2 1048709 (.int .i64), .kill (rg [(0, 0), (3, 3), (5, 15), (18, 62)]), .tidy])] [] k
noncomputable def f132.code : Go.Code := (Go.Func.body Try.f132).getD .skip
noncomputable def f132.l0 (k n : Nat) (p0 : Int) (p1 : Int) (p2 : Int) (p3 : List (Int × Int × Int)) (p4 : List Int) (p5 : List Int) : Option V :=
  atPath (f132.E k) n ⟨[.undef, (.ptr (262160 : Nat) ((0 : Nat)) ((0 : Nat))), (.ptr (524304 : Nat) ((0 : Nat)) ((0 : Nat))), .undef, (.ptr (1048592 : Nat) ((0 : Nat)) ((0 : Nat))), .undef, .undef, .undef, .undef, .undef, .undef, .undef, .undef, .undef, .undef, .undef, (.int .i64 (p0)), (.int .i64 (p1)), .undef, .undef, .undef, .undef, .undef, .undef, .undef, .undef, .undef, .undef, .undef, .undef, .undef, .undef, .undef, .undef, .undef, .undef, .undef, .undef, .undef, .undef, .undef, .undef, .undef, .undef, .undef, .undef, .undef, .undef, .undef, .undef, .undef, .undef, .undef, .undef, .undef, .undef, .undef, .undef, .undef, .undef, .undef, .undef, .undef], [], [((262160 : Nat), .box [(.int .i64 (p2)), (.ro (.pair (.int .i64) (.pair (.int .i64) (.int .i64))) (p3))]), ((524304 : Nat), .box [.nil, .nil, .nil]), ((1048592 : Nat), .box [(.slw (274882101296 : Nat)), (.slw (274882101360 : Nat)), (.slw (274882101424 : Nat))]), ((274882101296 : Nat), .row (.int .i64) (p4)), ((274882101360 : Nat), .row (.int .i64) (p4)), ((274882101424 : Nat), .row (.int .i64) (p5))]⟩ 9 0 132 [.c 1, .c 1, .c 1, .c 0, .c 1, .c 0] [] f132.code (finK tt Try.f132)
noncomputable def f132.l1 (k n : Nat) (p0 : Int) (p1 : Int) (p2 : List (Int × Int × Int)) (p3 : List Int) (p4 : List Int) (p5 : List Int) : Option V :=
  atPath (f132.E k) n ⟨[.undef, (.ptr (262160 : Nat) ((0 : Nat)) ((0 : Nat))), (.ptr (524304 : Nat) ((0 : Nat)) ((0 : Nat))), .undef, (.ptr (1048592 : Nat) ((0 : Nat)) ((0 : Nat))), .undef, .undef, .undef, .undef, .undef, .undef, .undef, .undef, .undef, .undef, .undef, .undef, .undef, .undef, .undef, .undef, .undef, .undef, .undef, .undef, .undef, .undef, .undef, .undef, .undef, .undef, .undef, .undef, .undef, (.int .i64 (p0)), (.int .i64 (p1)), .undef, .undef, .undef, .undef, .undef, .undef, .undef, .undef, .undef, .undef, .undef, .undef, .undef, .undef, .undef, .undef, .undef, .undef, .undef, .undef, .undef, .undef, .undef, .undef, .undef, .undef, .undef], [], [((262160 : Nat), .box [(.int .i64 (p0)), (.ro (.pair (.int .i64) (.pair (.int .i64) (.int .i64))) (p2))]), ((524304 : Nat), .box [.nil, .nil, .nil]), ((1048592 : Nat), .box [(.slw (274882101296 : Nat)), (.slw (274882101360 : Nat)), (.slw (274882101424 : Nat))]), ((274882101296 : Nat), .row (.int .i64) (p3)), ((274882101360 : Nat), .row (.int .i64) (p4)), ((274882101424 : Nat), .row (.int .i64) (p5))]⟩ 9 0 132 [.c 1, .c 1, .c 1, .c 1, .c 0, .c 1, .c 0] [] f132.code (finK tt Try.f132)
theorem f132.l0_eq (k n : Nat) (p0 : Int) (p1 : Int) (p2 : Int) (p3 : List (Int × Int × Int)) (p4 : List Int) (p5 : List Int) : f132.l0 k (n + 1) p0 p1 p2 p3 p4 p5 =
  bif decide (p1 < p0) then ((chk (decide (p3.length ≤ (16 : Nat)) && arcIn p3.length p1) (some ((arcFrom p3 p1, arcTo p3 p1)))).bind (fun y0 => chk (decide ((p5 ++ [y0.snd]).length * (8 : Nat) ≤ (140737488355328 : Nat))) (f132.l0 k n (p0) (Go.IntKind.i64.wrap (p1 + (1 : Int))) (p2) (p3) (p4) (p5 ++ [y0.snd])))) else (f132.l1 k k (p2) ((0 : Int)) (p3) (p4) (p4) (p5)) := by kernel_rfl
theorem f132.l1_eq (k n : Nat) (p0 : Int) (p1 : Int) (p2 : List (Int × Int × Int)) (p3 : List Int) (p4 : List Int) (p5 : List Int) : f132.l1 k (n + 1) p0 p1 p2 p3 p4 p5 =
  bif decide (p1 < p0) then (chk (decide ((p3 ++ [(↑p4.length : Int)]).length * (8 : Nat) ≤ (140737488355328 : Nat))) ((chk (decide (p2.length ≤ (16 : Nat))) (some (rowA p2 p1))).bind (fun y0 => chk (decide ((p4 ++ y0).length * (8 : Nat) ≤ (140737488355328 : Nat))) (f132.l1 k n (p0) (Go.IntKind.i64.wrap (p1 + (1 : Int))) (p2) (p3 ++ [(↑p4.length : Int)]) (p4 ++ y0) (p5))))) else (chk (decide ((p3 ++ [(↑p4.length : Int)]).length * (8 : Nat) ≤ (140737488355328 : Nat))) (some (.tup [(.agg [(.own (.int .i64) (p3 ++ [(↑p4.length : Int)])), (.own (.int .i64) (p4)), (.own (.int .i64) (p5))]), (.int .i64 ((0 : Int)))]))) := by kernel_rfl
theorem f132.eq (k : Nat) (x0 : Int × List (Int × Int × Int)) : evFn (f132.E k) 9 132 Try.f132 [(.agg [(.int .i64 (x0.fst)), (.ro (.pair (.int .i64) (.pair (.int .i64) (.int .i64))) (x0.snd))])] =
  bif !graphMay x0 then (none) else (f132.l0 k k (Go.IntKind.i64.wrap ((2 : Int) * (↑(List.length x0.snd) : Int))) ((0 : Int)) (x0.fst) (x0.snd) ([]) ([])) := by kernel_rfl
theorem f132.inl (k : Nat) : InlOk Try.prog (f132.E k) := inl_nil
theorem f132.sums (k : Nat) : SumsOk Try.prog (f132.E k) := (sums_cons ok104 (sums_cons ok156 (sums_cons ok157 sums_nil)))
noncomputable def f125.E (k : Nat) : Env := mkEnv tt [(92, S92), (137, S137), (140, S140)] [] [(125, 4, [.kill (rg [(0, 2), (5, 36), (40, 65)]), .tidy])] [] k
noncomputable def f125.code : Go.Code := (Go.Func.body Try.f125).getD .skip
noncomputable def f125.l0 (k n : Nat) (p0 : Int) (p1 : Int) (p2 : Int) (p3 : Int) (p4 : List Int) : Option V :=
  atPath (f125.E k) n ⟨[.undef, .undef, .undef, (.int .i64 (p0)), (.int .i64 (p1)), .undef, .undef, .undef, .undef, .undef, .undef, .undef, .undef, .undef, .undef, .undef, .undef, .undef, .undef, .undef, .undef, .undef, .undef, .undef, .undef, .undef, .undef, .undef, .undef, .undef, .undef, .undef, .undef, .undef, .undef, .undef, .undef, (.slw (9699344 : Nat)), (.int .i64 (p2)), (.int .i64 (p3)), .undef, .undef, .undef, .undef, .undef, .undef, .undef, .undef, .undef, .undef, .undef, .undef, .undef, .undef, .undef, .undef, .undef, .undef, .undef, .undef, .undef, .undef, .undef, .undef, .undef, .undef], [], [((9699344 : Nat), .row (.int .i64) (p4))]⟩ 9 0 125 [.c 1, .c 1, .c 0, .c 1, .c 0] [] f125.code (finK tt Try.f125)
theorem f125.l0_eq (k n : Nat) (p0 : Int) (p1 : Int) (p2 : Int) (p3 : Int) (p4 : List Int) : f125.l0 k (n + 1) p0 p1 p2 p3 p4 =
  bif decide (p3 < p2) then (chk (decide ((0 : Int) ≤ p3 ∧ p3 < (↑p4.length : Int))) (bif p3 == p0 then (bif decide (rd (Ty.int Go.IntKind.i64) p4 (↑p3.toNat : Int) < (0 : Int)) then (some (.bool (false))) else (bif p3 != p0 then (bif p3 != p1 then (bif rd (Ty.int Go.IntKind.i64) p4 (↑p3.toNat : Int) != (0 : Int) then (some (.bool (false))) else (f125.l0 k n (p0) (p1) (p2) (Go.IntKind.i64.wrap (p3 + (1 : Int))) (p4))) else (f125.l0 k n (p0) (p1) (p2) (Go.IntKind.i64.wrap (p3 + (1 : Int))) (p4))) else (f125.l0 k n (p0) (p1) (p2) (Go.IntKind.i64.wrap (p3 + (1 : Int))) (p4)))) else (bif p3 != p0 then (bif p3 != p1 then (bif rd (Ty.int Go.IntKind.i64) p4 (↑p3.toNat : Int) != (0 : Int) then (some (.bool (false))) else (f125.l0 k n (p0) (p1) (p2) (Go.IntKind.i64.wrap (p3 + (1 : Int))) (p4))) else (f125.l0 k n (p0) (p1) (p2) (Go.IntKind.i64.wrap (p3 + (1 : Int))) (p4))) else (f125.l0 k n (p0) (p1) (p2) (Go.IntKind.i64.wrap (p3 + (1 : Int))) (p4))))) else (some (.bool (true))) := by kernel_rfl
theorem f125.eq (k : Nat) (x0 : Int × List (Int × Int × Int)) (x1 : List Int) (x2 : List Int) (x3 : Int) (x4 : Int) : evFn (f125.E k) 9 125 Try.f125 [(.agg [(.int .i64 (x0.fst)), (.ro (.pair (.int .i64) (.pair (.int .i64) (.int .i64))) (x0.snd))]), (.ro (.int .i64) (x1)), (.ro (.int .i64) (x2)), (.int .i64 (x3)), (.int .i64 (x4))] =
  bif !liesB x0 x1 x2 then (some (.bool (false))) else (bif !hasV x0.fst x3 then (some (.bool (false))) else (bif !hasV x0.fst x4 then (some (.bool (false))) else (bif x3 == x4 then (some (.bool (false))) else ((chk (capsMay x0 x2) (some (gainsOf x0 x2))).bind (fun y0 => f125.l0 k k (x3) (x4) ((↑y0.length : Int)) ((0 : Int)) (y0)))))) := by kernel_rfl
theorem f125.inl (k : Nat) : InlOk Try.prog (f125.E k) := inl_nil
theorem f125.sums (k : Nat) : SumsOk Try.prog (f125.E k) := (sums_cons ok92 (sums_cons ok137 (sums_cons ok140 sums_nil)))
noncomputable def f136.E (k : Nat) : Env := mkEnv tt [(78, S78), (98, S98), (137, S137), (139, S139)] [(159, Try.f159)] [(136, 11, [.kill (rg [(0, 0), (2, 2), (4, 13), (15, 49), (53, 67)]), .tidy]), (136, 4, [.kill (rg [(0, 0), (5, 31), (35, 67)]), .tidy])] [] k
noncomputable def f136.code : Go.Code := (Go.Func.body Try.f136).getD .skip
noncomputable def f136.l0 (k n : Nat) (p0 : List Int) (p1 : List Int) (p2 : Int) (p3 : List Int) (p4 : Int) (p5 : Int) : Option V :=
  atPath (f136.E k) n ⟨[.undef, (.ro (.int .i64) (p0)), (.ro (.int .i64) (p1)), (.int .i64 (p2)), (.ro (.int .i64) (p3)), .undef, .undef, .undef, .undef, .undef, .undef, .undef, .undef, .undef, .undef, .undef, .undef, .undef, .undef, .undef, .undef, .undef, .undef, .undef, .undef, .undef, .undef, .undef, .undef, .undef, .undef, .undef, (.ro (.int .i64) (p3)), (.int .i64 (p4)), (.int .i64 (p5)), .undef, .undef, .undef, .undef, .undef, .undef, .undef, .undef, .undef, .undef, .undef, .undef, .undef, .undef, .undef, .undef, .undef, .undef, .undef, .undef, .undef, .undef, .undef, .undef, .undef, .undef, .undef, .undef, .undef, .undef, .undef, .undef, .undef], [], []⟩ 9 0 136 [.c 1, .c 1, .c 0, .c 1, .c 0] [] f136.code (finK tt Try.f136)
noncomputable def f136.l1 (k n : Nat) (p0 : List Int) (p1 : Int) (p2 : List Int) (p3 : Int) (p4 : Int) (p5 : List Int) : Option V :=
  atPath (f136.E k) n ⟨[.undef, (.ro (.int .i64) (p0)), .undef, (.int .i64 (p1)), .undef, .undef, .undef, .undef, .undef, .undef, .undef, .undef, .undef, .undef, (.slw (3670032 : Nat)), .undef, .undef, .undef, .undef, .undef, .undef, .undef, .undef, .undef, .undef, .undef, .undef, .undef, .undef, .undef, .undef, .undef, .undef, .undef, .undef, .undef, .undef, .undef, .undef, .undef, .undef, .undef, .undef, .undef, .undef, .undef, .undef, .undef, .undef, .undef, (.ro (.int .i64) (p2)), (.int .i64 (p3)), (.int .i64 (p4)), .undef, .undef, .undef, .undef, .undef, .undef, .undef, .undef, .undef, .undef, .undef, .undef, .undef, .undef, .undef], [], [((3670032 : Nat), .row (.int .i64) (p5))]⟩ 9 0 136 [.c 1, .c 1, .c 1, .c 1, .c 0, .c 1, .c 0] [] f136.code (finK tt Try.f136)
theorem f136.l0_eq (k n : Nat) (p0 : List Int) (p1 : List Int) (p2 : Int) (p3 : List Int) (p4 : Int) (p5 : Int) : f136.l0 k (n + 1) p0 p1 p2 p3 p4 p5 =
  bif decide (p5 < p4) then (chk (decide ((0 : Int) ≤ p5 ∧ p5 < (↑p3.length : Int))) (bif decide (rd (Ty.int Go.IntKind.i64) p3 p5 < (0 : Int)) then (some (.tup [(.own (.int .i64) ([])), (.int .i64 ((900 : Int)))])) else (bif decide (rd (Ty.int Go.IntKind.i64) p3 p5 ≥ Go.IntKind.i64.wrap ((2 : Int) * (↑p1.length : Int))) then (some (.tup [(.own (.int .i64) ([])), (.int .i64 ((900 : Int)))])) else (f136.l0 k n (p0) (p1) (p2) (p3) (p4) (Go.IntKind.i64.wrap (p5 + (1 : Int))))))) else ((chk (decide (p1.length * (8 : Nat) ≤ (140737488355328 : Nat))) (some (p1))).bind (fun y0 => f136.l1 k k (p0) (p2) (p3) ((↑p3.length : Int)) ((0 : Int)) (y0))) := by kernel_rfl
theorem f136.l1_eq (k n : Nat) (p0 : List Int) (p1 : Int) (p2 : List Int) (p3 : Int) (p4 : Int) (p5 : List Int) : f136.l1 k (n + 1) p0 p1 p2 p3 p4 p5 =
  bif decide (p4 < p3) then (chk (decide ((0 : Int) ≤ p4 ∧ p4 < (↑p2.length : Int))) ((chk (decide (p0.length ≤ (16 : Nat) ∧ p5.length = p0.length) && (arcIn p0.length (rd (Ty.int Go.IntKind.i64) p2 p4) && rateB (roomA p0 p5 (rd (Ty.int Go.IntKind.i64) p2 p4)))) (some (roomA p0 p5 (rd (Ty.int Go.IntKind.i64) p2 p4)))).bind (fun y0 => bif decide (y0 < p1) then (some (.tup [(.own (.int .i64) ([])), (.int .i64 ((901 : Int)))])) else (bif Int.tmod (rd (Ty.int Go.IntKind.i64) p2 p4) (2 : Int) == (1 : Int) then (chk (decide ((0 : Int) ≤ Go.IntKind.i64.wrap (Int.tdiv (rd (Ty.int Go.IntKind.i64) p2 p4) (2 : Int)) ∧ Go.IntKind.i64.wrap (Int.tdiv (rd (Ty.int Go.IntKind.i64) p2 p4) (2 : Int)) < (↑p5.length : Int))) (chk (decide ((0 : Int) ≤ Go.IntKind.i64.wrap (Int.tdiv (rd (Ty.int Go.IntKind.i64) p2 p4) (2 : Int)) ∧ Go.IntKind.i64.wrap (Int.tdiv (rd (Ty.int Go.IntKind.i64) p2 p4) (2 : Int)) < (↑p5.length : Int))) (f136.l1 k n (p0) (p1) (p2) (p3) (Go.IntKind.i64.wrap (p4 + (1 : Int))) (p5.set (Go.IntKind.i64.wrap (Int.tdiv (rd (Ty.int Go.IntKind.i64) p2 p4) (2 : Int))).toNat (Go.IntKind.i64.wrap (rd (Ty.int Go.IntKind.i64) p5 (↑(Go.IntKind.i64.wrap (Int.tdiv (rd (Ty.int Go.IntKind.i64) p2 p4) (2 : Int))).toNat : Int) + Go.IntKind.i64.wrap ((0 : Int) - p1))))))) else (chk (decide ((0 : Int) ≤ Go.IntKind.i64.wrap (Int.tdiv (rd (Ty.int Go.IntKind.i64) p2 p4) (2 : Int)) ∧ Go.IntKind.i64.wrap (Int.tdiv (rd (Ty.int Go.IntKind.i64) p2 p4) (2 : Int)) < (↑p5.length : Int))) (chk (decide ((0 : Int) ≤ Go.IntKind.i64.wrap (Int.tdiv (rd (Ty.int Go.IntKind.i64) p2 p4) (2 : Int)) ∧ Go.IntKind.i64.wrap (Int.tdiv (rd (Ty.int Go.IntKind.i64) p2 p4) (2 : Int)) < (↑p5.length : Int))) (f136.l1 k n (p0) (p1) (p2) (p3) (Go.IntKind.i64.wrap (p4 + (1 : Int))) (p5.set (Go.IntKind.i64.wrap (Int.tdiv (rd (Ty.int Go.IntKind.i64) p2 p4) (2 : Int))).toNat (Go.IntKind.i64.wrap (rd (Ty.int Go.IntKind.i64) p5 (↑(Go.IntKind.i64.wrap (Int.tdiv (rd (Ty.int Go.IntKind.i64) p2 p4) (2 : Int))).toNat : Int) + p1)))))))))) else (some (.tup [(.own (.int .i64) (p5)), (.int .i64 ((0 : Int)))])) := by kernel_rfl
theorem f136.eq (k : Nat) (x0 : Int × List (Int × Int × Int)) (x1 : List Int) (x2 : List Int) (x3 : Int) (x4 : List Int) : evFn (f136.E k) 9 136 Try.f136 [(.agg [(.int .i64 (x0.fst)), (.ro (.pair (.int .i64) (.pair (.int .i64) (.int .i64))) (x0.snd))]), (.ro (.int .i64) (x1)), (.ro (.int .i64) (x2)), (.int .i64 (x3)), (.ro (.int .i64) (x4))] =
  bif !liesB x0 x1 x2 then (some (.tup [(.own (.int .i64) ([])), (.int .i64 ((900 : Int)))])) else (bif !rateB x3 then (some (.tup [(.own (.int .i64) ([])), (.int .i64 ((900 : Int)))])) else (bif decide ((↑x4.length : Int) > (64 : Int)) then (some (.tup [(.own (.int .i64) ([])), (.int .i64 ((900 : Int)))])) else (f136.l0 k k (x1) (x2) (x3) (x4) ((↑x4.length : Int)) ((0 : Int))))) := by kernel_rfl
theorem f136.inl (k : Nat) : InlOk Try.prog (f136.E k) := (inl_cons (by kernel_rfl) (by kernel_rfl) inl_nil)
theorem f136.sums (k : Nat) : SumsOk Try.prog (f136.E k) := (sums_cons ok78 (sums_cons ok98 (sums_cons ok137 (sums_cons ok139 sums_nil))))
end

section
set_option linter.unusedVariables false

theorem any_not {α : Type} (p : α → Bool) : ∀ l : List α, (l.any fun a => !p a) = !l.all p
  | [] => rfl
  | y :: z => by rw [List.any_cons, List.all_cons, any_not p z, Bool.not_and]

@[reducible] def resArcs (x : List Int × (List Int × List Int)) : V := .tup [.agg [.own tI x.1, .own tI x.2.1, .own tI x.2.2], .int .i64 0]
noncomputable def S132 : Summ := summ [tG] (List Int × (List Int × List Int)) (fun (g : Gr) => chk (graphMay g) (some (startsA g.2 g.1.toNat, (orderA g.2 g.1.toNat, headsA g.2)))) resArcs

theorem startsA_front (gl : List Lk) (n : Nat) : startsA gl n = (List.range n).map (fun v => ((orderA gl v).length : Int)) ++ [((orderA gl n).length : Int)] := by
  unfold startsA
  rw [List.range_succ, List.map_append]
  rfl

theorem f132.l1_is (k : Nat) (gl : List Lk) (hs : List Int) (m : Nat) (hm : m ≤ 8) (hl : gl.length ≤ 16) : ∀ (n i : Nat), i ≤ m → m < n + i →
    f132.l1 k n (m : Int) (i : Int) gl ((List.range i).map fun v => ((orderA gl v).length : Int)) (orderA gl i) hs = some (resArcs (startsA gl m, (orderA gl m, hs)))
  | 0, i, h, h' => by omega
  | n + 1, i, h, h' => by
    have h1 := orderA_len gl i
    have h2 : i * (2 * gl.length) ≤ 8 * 32 := Nat.mul_le_mul (by omega) (by omega)
    have h3 := rowA_len gl i
    have e : (List.range (i + 1)).map (fun v => ((orderA gl v).length : Int)) = (List.range i).map (fun v => ((orderA gl v).length : Int)) ++ [((orderA gl i).length : Int)] := by
      rw [List.range_succ, List.map_append]
      rfl
    rw [f132.l1_eq]
    by_cases hlt : i < m
    · rw [show decide ((i : Int) < (m : Int)) = true from decide_eq_true (by omega), cT, chk_eq (decide_eq_true (by rw [List.length_append, List.length_map, List.length_range, List.length_singleton]; omega)), decide_eq_true hl, kT, bS,
        chk_eq (decide_eq_true (by rw [List.length_append]; omega)), wrap_succ (by omega), ← e, ← orderA_succ]
      exact f132.l1_is k gl hs m hm hl n (i + 1) (by omega) (by omega)
    · obtain rfl : i = m := by omega
      rw [show decide ((i : Int) < (i : Int)) = false from decide_eq_false (by omega), cF, chk_eq (decide_eq_true (by rw [List.length_append, List.length_map, List.length_range, List.length_singleton]; omega)), ← startsA_front]

theorem f132.l0_is (k : Nat) (gl : List Lk) (m : Int) (hl : gl.length ≤ 16) (R0 : Option V) (hR : f132.l1 k k m 0 gl [] [] (headsA gl) = R0) : ∀ (n i : Nat), i ≤ 2 * gl.length → 2 * gl.length < n + i →
    f132.l0 k n ((2 * gl.length : Nat) : Int) (i : Int) m gl [] (((upto (2 * gl.length)).take i).map (arcTo gl)) = R0
  | 0, i, h, h' => by omega
  | n + 1, i, h, h' => by
    rw [f132.l0_eq]
    by_cases hlt : i < 2 * gl.length
    · have hu : i < (upto (2 * gl.length)).length := by rw [upto_length]; exact hlt
      have hg : (upto (2 * gl.length))[i] = (i : Int) := (List.getElem?_eq_some_iff.1 (upto_get hlt)).2
      rw [show decide ((i : Int) < ((2 * gl.length : Nat) : Int)) = true from decide_eq_true (by omega), cT, decide_eq_true hl, Bool.true_and,
        show arcIn gl.length (i : Int) = true from decide_eq_true (by omega), kT, bS, wrap_succ (by omega), chk_eq (decide_eq_true (by
          rw [List.length_append, List.length_map, List.length_take, upto_length, List.length_singleton]
          omega))]
      have := f132.l0_is k gl m hl R0 hR n (i + 1) (by omega) (by omega)
      rw [List.take_succ_eq_append_getElem hu, hg, List.map_append] at this
      exact this
    · obtain rfl : i = 2 * gl.length := by omega
      rw [show decide (((2 * gl.length : Nat) : Int) < ((2 * gl.length : Nat) : Int)) = false from decide_eq_false (by omega), cF, List.take_of_length_le (by rw [upto_length]; omega)]
      exact hR

theorem ok132 : SumOk Try.prog 132 S132 :=
  sum_k hmix f132.E (fn := Try.f132) (code := f132.code) (by kernel_rfl) (by kernel_rfl) (by kernel_rfl) (fun _ => ttOk) f132.sums f132.inl fun (g : Gr) x hx => by
    obtain ⟨hb, hx⟩ := chk_some hx
    obtain rfl := Option.some.inj hx
    have hp := graphMay_parts hb
    refine ⟨33, (f132.eq _ g).trans ?_⟩
    rw [hb, Bool.not_true, cF, wrap64 (by omega), show (2 : Int) * (g.2.length : Int) = ((2 * g.2.length : Nat) : Int) by omega]
    refine f132.l0_is 33 g.2 g.1 hp.2.2.1 _ ?_ 33 0 (by omega) (by omega)
    have := f132.l1_is 33 g.2 (headsA g.2) g.1.toNat (by omega) hp.2.2.1 33 0 (by omega) (by omega)
    rw [show ((g.1.toNat : Nat) : Int) = g.1 by omega] at this
    exact this

/-! Flows. -/
noncomputable def S125 : Summ := summ [tG, tL, tL, tI, tI] Bool (fun (d : Gr × (List Int × (List Int × (Int × Int)))) => some (mayF d.1 d.2.1 d.2.2.1 d.2.2.2.1 d.2.2.2.2)) .bool
theorem f125.l0_is (k : Nat) (g : Gr) (f : List Int) (src dst : Int) (hg : 2 ≤ g.1 ∧ g.1 ≤ 8) : f125.l0 (k + 9) (k + 9) src dst ((gainsOf g f).length : Int) 0 (gainsOf g f) = some (.bool ((upto g.1.toNat).all (stillB g f src dst))) := by
  have hlen : (gainsOf g f).length = (upto g.1.toNat).length := by simp [gainsOf]
  refine (loop_any0 (fun n i => f125.l0 (k + 9) n src dst ((gainsOf g f).length : Int) (i : Nat) (gainsOf g f)) (upto g.1.toNat) (fun v => !stillB g f src dst v) (some (.bool false)) (some (.bool true)) (fun n i v hv => by
    have hi := idx_lt hv
    have hi' := hi
    rw [upto_length] at hi'
    obtain rfl : (i : Int) = v := Option.some.inj ((upto_get hi').symm.trans hv)
    have hx : (gainsOf g f)[i]? = some (gainV g.2 f i) := by simp only [gainsOf]; rw [List.getElem?_map, hv]; rfl
    rw [f125.l0_eq, hlen, show decide ((i : Int) < ((upto g.1.toNat).length : Int)) = true from decide_eq_true (by omega), cT, show ((i : Int).toNat : Int) = (i : Int) by omega, idx_in hv, kT, rd_some (t := tI) hx, wrap_succ (by omega)]
    unfold stillB
    simp only [bne]
    by_cases h1 : (i : Int) = src
    · subst h1
      rw [show ((i : Int) == (i : Int)) = true by simp, cT, Bool.true_and, Bool.not_true, cF, Bool.false_and, Bool.or_false, Bool.not_not]
    · rw [show ((i : Int) == src) = false by simpa using h1, cF, Bool.false_and, Bool.false_or, Bool.not_false, cT, Bool.true_and]
      by_cases h2 : (i : Int) = dst
      · rw [show ((i : Int) == dst) = true by simpa using h2, Bool.not_true, cF, Bool.false_and, Bool.not_not, cF]
      · rw [show ((i : Int) == dst) = false by simpa using h2, Bool.not_false, cT, Bool.true_and, Bool.not_not]) (fun n => by
    rw [f125.l0_eq, hlen, end_lt, cF]) (n := k + 9) (by rw [upto_length]; omega)).trans ?_
  have := any_not (stillB g f src dst) (upto g.1.toNat)
  rw [this]
  cases (upto g.1.toNat).all (stillB g f src dst) <;> rfl

theorem ok125 : SumOk Try.prog 125 S125 :=
  sum_k hmix f125.E (fn := Try.f125) (code := f125.code) (by kernel_rfl) (by kernel_rfl) (by kernel_rfl) (fun _ => ttOk) f125.sums f125.inl fun (d : Gr × (List Int × (List Int × (Int × Int)))) x hx => by
    obtain rfl := Option.some.inj hx
    refine ⟨9, (f125.eq _ d.1 d.2.1 d.2.2.1 d.2.2.2.1 d.2.2.2.2).trans ?_⟩
    unfold mayF
    cases h1 : liesB d.1 d.2.1 d.2.2.1 with
    | false => rw [Bool.not_false, cT, Bool.false_and]
    | true =>
      rw [Bool.not_true, cF, Bool.true_and]
      cases h2 : hasV d.1.1 d.2.2.2.1 with
      | false => rw [Bool.not_false, cT, Bool.false_and]
      | true =>
        rw [Bool.not_true, cF, Bool.true_and]
        cases h3 : hasV d.1.1 d.2.2.2.2 with
        | false => rw [Bool.not_false, cT, Bool.false_and]
        | true =>
          rw [Bool.not_true, cF, Bool.true_and]
          cases h4 : d.2.2.2.1 == d.2.2.2.2 with
          | true => rw [cT, Bool.not_true, Bool.false_and]
          | false =>
            have hc := lies_caps h1
            have hp := graphMay_parts (caps_graph hc)
            rw [cF, Bool.not_false, Bool.true_and, hc, kT, bS]
            exact f125.l0_is 0 d.1 d.2.2.1 _ _ ⟨hp.1, hp.2.1⟩

/-! Moves. -/
noncomputable def S136 : Summ := summ [tG, tL, tL, tI, tL] (List Int × Int) (fun (d : Gr × (List Int × (List Int × (Int × List Int)))) => some (moveOf d.1 d.2.1 d.2.2.1 d.2.2.2.1 d.2.2.2.2)) resLE

def moveRes (r : Option (List Int)) : Option V := match r with
  | some o => some (resLE (o, 0))
  | none => some (resLE ([], 901))

theorem f136.l1_is (k : Nat) {g : Gr} {cs : List Int} (hc : capsMay g cs = true) (b : Int) (hb : rateB b = true) (ws : List Int) (hw : ws.all (arcIn cs.length) = true) (h64 : ws.length ≤ 64) : ∀ (n i : Nat) (o : List Int), i ≤ ws.length → ws.length < n + i → withinF o cs = true →
    f136.l1 k n cs b ws (ws.length : Int) (i : Int) o = moveRes (moveL cs b o (ws.drop i))
  | 0, i, o, h, h', _ => by omega
  | n + 1, i, o, h, h', ho => by
    have hb' := of_decide_eq_true hb
    by_cases hlt : i < ws.length
    · have hx := List.getElem?_eq_getElem hlt
      have ha : arcIn cs.length ws[i] = true := List.all_eq_true.1 hw _ (List.getElem_mem hlt)
      have ha' := of_decide_eq_true ha
      have hl := withinF_len ho
      have h16 : cs.length ≤ 16 := by rw [capsMay_len hc]; exact (graphMay_parts (caps_graph hc)).2.2.1
      have hr := room_rate hc ho ha
      have hr' := of_decide_eq_true hr
      have hL := arcL_lt ha
      have hin : decide ((0 : Int) ≤ arcL ws[i] ∧ arcL ws[i] < (o.length : Int)) = true := decide_eq_true (by omega)
      have hM : maxRate = 4611686018427387904 := rfl
      have hv := within_at ho hL
      have hcl := caps_le hc (List.mem_of_getElem? (rdI_get hL))
      rw [f136.l1_eq, idx_lt' hx, idx_in hx, cT, kT, rd_some (t := tI) hx, show decide (cs.length ≤ 16 ∧ o.length = cs.length) = true from decide_eq_true ⟨h16, hl⟩, Bool.true_and, ha, Bool.true_and, hr, kT, bS,
        wrap_succ (by omega), List.drop_eq_getElem_cons hlt]
      simp only [moveL]
      cases hd : decide (roomA cs o ws[i] < b) with
      | true => rw [cT, cT]; rfl
      | false =>
        have hd' := of_decide_eq_false hd
        rw [cF, cF, arc_tdiv (by omega), arc_tmod (by omega), chk_eq hin, chk_eq hin, chk_eq hin, chk_eq hin]
        have hmw := moveA_within ho ha hb'.1 (b := b) (by omega)
        unfold roomA at hd'
        have hm : (bif backB ws[i] then o.set (arcL ws[i]).toNat (Go.IntKind.i64.wrap (rd (Ty.int Go.IntKind.i64) o ((arcL ws[i]).toNat : Int) + Go.IntKind.i64.wrap (0 - b))) else o.set (arcL ws[i]).toNat (Go.IntKind.i64.wrap (rd (Ty.int Go.IntKind.i64) o ((arcL ws[i]).toNat : Int) + b))) = moveA o b ws[i] := by
          unfold moveA
          cases hk : backB ws[i] with
          | true =>
            rw [hk, cT] at hd'
            rw [cT, cT, rdI_eq, rdI_nat, wrap64 (n := 0 - b) (by omega), wrap64 (by omega), show (0 : Int) - b = -b by omega]
          | false =>
            rw [hk, cF] at hd'
            rw [cF, cF, rdI_eq, rdI_nat, wrap64 (by omega)]
        have ih := f136.l1_is k hc b hb ws hw h64 n (i + 1) (moveA o b ws[i]) (by omega) (by omega) hmw
        rw [← ih, ← hm]
        cases backB ws[i] with
        | true => rw [cT, cT]
        | false => rw [cF, cF]
    · obtain rfl : i = ws.length := by omega
      rw [f136.l1_eq, end_lt, cF, List.drop_length]
      rfl

theorem f136.l0_is (k : Nat) {g : Gr} {cs f : List Int} (hc : capsMay g cs = true) (b : Int) (hb : rateB b = true) (hf : withinF f cs = true) (ws : List Int) (h64 : ws.length ≤ 64) :
    f136.l0 (k + 65) (k + 65) cs f b ws (ws.length : Int) 0 = bif ws.any (fun a => !arcIn cs.length a) then some (resLE ([], 900)) else f136.l1 (k + 65) (k + 65) cs b ws (ws.length : Int) 0 f := by
  have hl := withinF_len hf
  have h16 : cs.length ≤ 16 := by rw [capsMay_len hc]; exact (graphMay_parts (caps_graph hc)).2.2.1
  refine loop_any0 (fun n i => f136.l0 (k + 65) n cs f b ws (ws.length : Int) (i : Nat)) ws (fun a => !arcIn cs.length a) (some (resLE ([], 900))) _ (fun n i x hx => ?_) (fun n => ?_) (by omega)
  · have := idx_lt hx
    rw [f136.l0_eq, idx_lt' hx, idx_in hx, rd_some (t := tI) hx, wrap_succ (by omega), cT, kT, wrap64 (n := 2 * (f.length : Int)) (by omega)]
    unfold arcIn
    by_cases h1 : x < 0
    · rw [show decide (x < 0) = true from decide_eq_true h1, cT, show decide (0 ≤ x ∧ x < 2 * (cs.length : Int)) = false from decide_eq_false (by omega), Bool.not_false, cT]
    · by_cases h2 : x ≥ 2 * (f.length : Int)
      · rw [show decide (x < 0) = false from decide_eq_false h1, cF, show decide (x ≥ 2 * (f.length : Int)) = true from decide_eq_true h2, cT, show decide (0 ≤ x ∧ x < 2 * (cs.length : Int)) = false from decide_eq_false (by omega), Bool.not_false, cT]
      · rw [show decide (x < 0) = false from decide_eq_false h1, cF, show decide (x ≥ 2 * (f.length : Int)) = false from decide_eq_false h2, cF, show decide (0 ≤ x ∧ x < 2 * (cs.length : Int)) = true from decide_eq_true (by omega), Bool.not_true, cF]
  · rw [f136.l0_eq, end_lt, cF, chk_eq (decide_eq_true (by omega)), bS]

theorem ok136 : SumOk Try.prog 136 S136 :=
  sum_k hmix f136.E (fn := Try.f136) (code := f136.code) (by kernel_rfl) (by kernel_rfl) (by kernel_rfl) (fun _ => ttOk) f136.sums f136.inl fun (d : Gr × (List Int × (List Int × (Int × List Int)))) x hx => by
    obtain ⟨g, cs, f, b, ws⟩ := d
    obtain rfl := Option.some.inj hx
    refine ⟨65, (f136.eq _ g cs f b ws).trans ?_⟩
    show _ = some (resLE (moveOf g cs f b ws))
    unfold moveOf moveForm
    cases h1 : liesB g cs f with
    | false => rw [Bool.not_false, cT, Bool.false_and, cF]
    | true =>
      rw [Bool.not_true, cF, Bool.true_and]
      cases h2 : rateB b with
      | false => rw [Bool.not_false, cT, Bool.false_and, cF]
      | true =>
        rw [Bool.not_true, cF, Bool.true_and]
        by_cases h3 : ws.length ≤ 64
        · have h1' := h1
          simp only [liesB, Bool.and_eq_true] at h1'
          have e := any_not (arcIn cs.length) ws
          rw [show decide ((ws.length : Int) > 64) = false from decide_eq_false (by omega), cF, decide_eq_true h3, Bool.true_and, withinF_len h1'.2, f136.l0_is 0 h1'.1 b h2 h1'.2 ws h3, e]
          cases h4 : ws.all (arcIn cs.length) with
          | false => rw [Bool.not_false, cT, cF]
          | true =>
            rw [Bool.not_true, cF, cT]
            refine (f136.l1_is _ h1'.1 b h2 ws h4 h3 _ 0 f (by omega) (by omega) h1'.2).trans ?_
            rw [List.drop_zero]
            cases moveL cs b f ws <;> rfl
        · rw [show decide ((ws.length : Int) > 64) = true from decide_eq_true (by omega), cT, decide_eq_false h3, Bool.false_and, cF]
end

end Go.Proofs.Ytiboikgoaihccaa.R
