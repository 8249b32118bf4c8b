/-
Texts of package route, put together by program.
-/
import Derived.Test.YtiboikgoaihccaaProg
import Derived.Test.YtiboikgoaihccaaRC
import Derived.Test.YtiboikgoaihccaaTt
import Derived.Test.YtiboikgoaihccaaM3
import Derived.KernelRfl
namespace Go.Proofs.Ytiboikgoaihccaa.R

section
set_option maxRecDepth 100000
set_option linter.unusedVariables false
noncomputable def f99.E (k : Nat) : Env := mkEnv tt [(92, S92), (95, S95), (98, S98), (123, S123)] [] [(99, 4, [.kill (rg [(0, 0), (6, 12), (15, 74)]), .tidy])] [] k
noncomputable def f99.code : Go.Code := (Go.Func.body Try.f99).getD .skip
noncomputable def f99.l0 (k n : Nat) (p0 : List Int) (p1 : Int) (p2 : Int) (p3 : Int) (p4 : Int) (p5 : Int) (p6 : List (Int × Int × Int)) (p7 : List Int) : Option V :=
  atPath (f99.E k) n ⟨[.undef, (.ro (.int .i64) (p0)), (.int .i64 (p1)), (.int .i64 (p2)), (.int .i64 (p3)), (.ptr (1310736 : Nat) ((0 : Nat)) ((0 : Nat))), .undef, .undef, .undef, .undef, .undef, .undef, .undef, (.slw (3407888 : Nat)), (.int .i64 (p4)), .undef, .undef, .undef, .undef, .undef, .undef, .undef, .undef, .undef, .undef, .undef, .undef, .undef, .undef, .undef, .undef, .undef, .undef, .undef, .undef, .undef, .undef, .undef, .undef, .undef, .undef, .undef, .undef, .undef, .undef, .undef, .undef, .undef, .undef, .undef, .undef, .undef, .undef, .undef, .undef, .undef, .undef, .undef, .undef, .undef, .undef, .undef, .undef, .undef, .undef, .undef, .undef, .undef, .undef, .undef, .undef, .undef, .undef, .undef, .undef], [], [((1310736 : Nat), .box [(.int .i64 (p5)), (.ro (.pair (.int .i64) (.pair (.int .i64) (.int .i64))) (p6))]), ((3407888 : Nat), .row (.int .i64) (p7))]⟩ 9 0 99 [.c 1, .c 1, .c 1, .c 0, .c 0] [] f99.code (finK tt Try.f99)
theorem f99.l0_eq (k n : Nat) (p0 : List Int) (p1 : Int) (p2 : Int) (p3 : Int) (p4 : Int) (p5 : Int) (p6 : List (Int × Int × Int)) (p7 : List Int) : f99.l0 k (n + 1) p0 p1 p2 p3 p4 p5 p6 p7 =
  bif decide (p4 < p3) then ((blockC (((p5, p6), p0, p7, p1, p2, Go.IntKind.i64.wrap (p3 - p4)))).bind (fun y0 => bif y0.snd == (0 : Int) then (some (.tup [(.own (.int .i64) (p7)), (.int .i64 (p4)), (.int .i64 ((0 : Int)))])) else (f99.l0 k n (p0) (p1) (p2) (p3) (Go.IntKind.i64.wrap (p4 + y0.snd)) (p5) (p6) (y0.fst)))) else (some (.tup [(.own (.int .i64) (p7)), (.int .i64 (p4)), (.int .i64 ((0 : Int)))])) := by kernel_rfl
theorem f99.eq (k : Nat) (x0 : Int × List (Int × Int × Int)) (x1 : List Int) (x2 : Int) (x3 : Int) (x4 : Int) : evFn (f99.E k) 9 99 Try.f99 [(.agg [(.int .i64 (x0.fst)), (.ro (.pair (.int .i64) (.pair (.int .i64) (.int .i64))) (x0.snd))]), (.ro (.int .i64) (x1)), (.int .i64 (x2)), (.int .i64 (x3)), (.int .i64 (x4))] =
  bif !capsMay x0 x1 then (some (.tup [(.own (.int .i64) ([])), (.int .i64 ((0 : Int))), (.int .i64 ((1200 : Int)))])) else (bif !hasV x0.fst x2 then (some (.tup [(.own (.int .i64) ([])), (.int .i64 ((0 : Int))), (.int .i64 ((1200 : Int)))])) else (bif !hasV x0.fst x3 then (some (.tup [(.own (.int .i64) ([])), (.int .i64 ((0 : Int))), (.int .i64 ((1200 : Int)))])) else (bif x2 == x3 then (some (.tup [(.own (.int .i64) ([])), (.int .i64 ((0 : Int))), (.int .i64 ((1200 : Int)))])) else (bif !rateB x4 then (some (.tup [(.own (.int .i64) ([])), (.int .i64 ((0 : Int))), (.int .i64 ((1200 : Int)))])) else (chk (decide ((0 : Int) ≤ (↑x1.length : Int) ∧ (↑x1.length : Int) ≤ (↑x1.length : Int))) (chk (decide ((0 : Nat) < (8 : Nat) ∧ (↑x1.length : Int) * (↑(8 : Nat) : Int) ≤ (140737488355328 : Int))) (f99.l0 k k (x1) (x2) (x3) (x4) ((0 : Int)) (x0.fst) (x0.snd) (List.replicate (↑x1.length : Int).toNat (dflt (Ty.int Go.IntKind.i64)))))))))) := by kernel_rfl
theorem f99.inl (k : Nat) : InlOk Try.prog (f99.E k) := inl_nil
theorem f99.sums (k : Nat) : SumsOk Try.prog (f99.E k) := (sums_cons ok92 (sums_cons ok95 (sums_cons ok98 (sums_cons ok123 sums_nil))))
end

section
set_option linter.unusedVariables false
set_option maxRecDepth 100000

structure PushOk (g : Gr) (cs : List Int) (src dst want : Int) (f : List Int) (value : Int) : Prop where
  flow : FlowOk g cs f src dst
  gain : gainV g.2 f src = value
  le : 0 ≤ value ∧ value ≤ want
  less : value < want → rdI (levelsOf g cs f src) dst < 0

def pushForm (g : Gr) (cs : List Int) (src dst want : Int) : Bool := capsMay g cs && (hasV g.1 src && (hasV g.1 dst && (!(src == dst) && rateB want)))

@[reducible] def resB3 (x : List Int × (Int × Int)) : V := .tup [.own tI x.1, .int .i64 x.2.1, .int .i64 x.2.2]

theorem gain_zero (v : Int) : ∀ (gl : List Lk) (n : Nat), gainV gl (List.replicate n 0) v = 0
  | [], n => by simp [gainV]
  | l :: gl, 0 => by simp [gainV]
  | l :: gl, n + 1 => by
    rw [List.replicate_succ]
    simp only [gainV, gain_zero v gl n]
    cases l.1 == v <;> cases l.2.1 == v <;> simp only [cT, cF] <;> rfl

theorem flow_zero {g : Gr} {cs : List Int} (hc : capsMay g cs = true) (src dst : Int) : FlowOk g cs (List.replicate cs.length 0) src dst := by
  have hcl := capsMay_len hc
  refine ⟨withinF_by (by simp) fun i hi => ?_, fun v _ _ _ => gain_zero _ _ _, fun i hi _ => rdI_replicate (by omega)⟩
  rw [rdI_replicate (by omega)]
  exact ⟨Int.le_refl _, (caps_le hc (List.mem_of_getElem? (rdI_get hi))).1⟩

theorem f99.l0_is (k : Nat) {g : Gr} {cs : List Int} {src dst want : Int} (hc : capsMay g cs = true) (hs : hasV g.1 src = true) (hd : hasV g.1 dst = true) (hne : src ≠ dst) (hm : 0 ≤ want ∧ want ≤ maxRate) : ∀ (n : Nat) (f : List Int) (v : Int), want - v < n → (0 ≤ v ∧ v ≤ want) → FlowOk g cs f src dst → gainV g.2 f src = v →
    ∃ x : List Int × (Int × Int), f99.l0 k n cs src dst want v g.1 g.2 f = some (resB3 x) ∧ x.2.2 = 0 ∧ PushOk g cs src dst want x.1 x.2.1
  | 0, f, v, h, h', _, _ => by omega
  | n + 1, f, v, h, h', hF, hG => by
    have hM : maxRate = 4611686018427387904 := rfl
    rw [f99.l0_eq]
    by_cases hlt : v < want
    · have hw : Go.IntKind.i64.wrap (want - v) = want - v := wrap64 (by omega)
      obtain ⟨x, e1, e2⟩ := blockC_is hc hs hd hne (show rateB (want - v) = true from decide_eq_true (by omega)) hF
      rw [decide_eq_true hlt, cT, hw, e1, bS]
      have h2 := e2.le
      cases h0 : x.2 == 0 with
      | true =>
        have h0 := eq_of_beq h0
        rw [cT]
        exact ⟨(f, (v, 0)), rfl, rfl, hF, hG, h', fun _ => (e2.none h0 (by omega)).2⟩
      | false =>
        have h0 := ne_of_beq_false h0
        rw [cF, wrap64 (n := v + x.2) (by omega)]
        exact f99.l0_is k hc hs hd hne hm n x.1 (v + x.2) (by omega) (by omega) e2.flow (by rw [e2.gain, hG])
    · rw [decide_eq_false hlt, cF]
      exact ⟨(f, (v, 0)), rfl, rfl, hF, hG, h', fun h3 => absurd h3 hlt⟩

def pushQ (d : Gr × (List Int × (Int × (Int × Int)))) (x : List Int × (Int × Int)) : Prop :=
  bif pushForm d.1 d.2.1 d.2.2.1 d.2.2.2.1 d.2.2.2.2 then x.2.2 = 0 ∧ PushOk d.1 d.2.1 d.2.2.1 d.2.2.2.1 d.2.2.2.2 x.1 x.2.1 else x = ([], (0, 1200))
def pushP (d : Gr × (List Int × (Int × (Int × Int)))) (x : List Int × (Int × Int)) : Prop :=
  pushQ d x ∧ ∃ k, evFn (f99.E k) 9 99 Try.f99 (encL [tG, tL, tI, tI, tI] d) = some (resB3 x)
noncomputable def pushC (d : Gr × (List Int × (Int × (Int × Int)))) : Option (List Int × (Int × Int)) := relC pushP d

theorem f99_is (d : Gr × (List Int × (Int × (Int × Int)))) : ∃ x, pushP d x := by
  obtain ⟨g, cs, src, dst, want⟩ := d
  cases hf : pushForm g cs src dst want with
  | true =>
    have hf' := hf
    unfold pushForm at hf'
    simp only [Bool.and_eq_true, Bool.not_eq_true'] at hf'
    obtain ⟨hc, hs, hd, hne, hm⟩ := hf'
    have hm' : 0 ≤ want ∧ want ≤ maxRate := of_decide_eq_true hm
    have hcl := capsMay_len hc
    have hp := graphMay_parts (caps_graph hc)
    obtain ⟨x, e1, e2⟩ := f99.l0_is (want.toNat + 1) hc hs hd (ne_of_beq_false hne) hm' (want.toNat + 1) (List.replicate cs.length 0) 0 (by omega) (by omega) (flow_zero hc src dst) (gain_zero _ _ _)
    refine ⟨x, ?_, want.toNat + 1, (f99.eq _ g cs src dst want).trans ?_⟩
    · unfold pushQ
      dsimp only
      rw [hf, cT]
      exact e2
    · rw [hc, hs, hd, hne, hm, Bool.not_true, cF, cF, cF, cF, cF, decide_eq_true (by omega : (0 : Int) ≤ (cs.length : Int) ∧ (cs.length : Int) ≤ (cs.length : Int)), kT, decide_eq_true (by omega : 0 < 8 ∧ (cs.length : Int) * ((8 : Nat) : Int) ≤ 140737488355328), kT, Int.toNat_natCast]
      exact e1
  | false =>
    refine ⟨([], (0, 1200)), ?_, 1, (f99.eq _ g cs src dst want).trans ?_⟩
    · unfold pushQ
      dsimp only
      rw [hf, cF]
    · unfold pushForm at hf
      revert hf
      cases capsMay g cs <;> cases hasV g.1 src <;> cases hasV g.1 dst <;> cases src == dst <;> cases rateB want <;> intro hf <;> simp only [Bool.not_true, Bool.not_false, cT, cF] <;> cases hf

theorem pushC_is {g : Gr} {cs : List Int} {src dst want : Int} : ∃ x, pushC (g, (cs, (src, (dst, want)))) = some x ∧ pushQ (g, (cs, (src, (dst, want)))) x := by
  obtain ⟨y, e1, e2⟩ := relC_is (f99_is (g, (cs, (src, (dst, want)))))
  exact ⟨y, e1, e2.1⟩

noncomputable def S99 : Summ := summ [tG, tL, tI, tI, tI] (List Int × (Int × Int)) pushC resB3
theorem ok99 : SumOk Try.prog 99 S99 :=
  sum_k hmix f99.E (fn := Try.f99) (code := f99.code) (by kernel_rfl) (by kernel_rfl) (by kernel_rfl) (fun _ => ttOk) f99.sums f99.inl fun d x hx => (relC_some (P := pushP) hx).2
end

section
set_option maxRecDepth 100000
set_option linter.unusedVariables false
noncomputable def f163.E (k : Nat) : Env := mkEnv tt [] [] [(163, 2, [.kill (rg [(0, 0), (4, 11), (15, 38)]), .tidy])] [] k
noncomputable def f163.code : Go.Code := (Go.Func.body Try.f163).getD .skip
noncomputable def f163.l0 (k n : Nat) (p0 : List Int) (p1 : List Bool) (p2 : Int) (p3 : List (Int × Int × Int)) (p4 : Int) (p5 : Int) : Option V :=
  atPath (f163.E k) n ⟨[.undef, (.ro (.int .i64) (p0)), (.ro .bool (p1)), (.int .i64 (p2)), .undef, .undef, .undef, .undef, .undef, .undef, .undef, .undef, (.ro (.pair (.int .i64) (.pair (.int .i64) (.int .i64))) (p3)), (.int .i64 (p4)), (.int .i64 (p5)), .undef, .undef, .undef, .undef, .undef, .undef, .undef, .undef, .undef, .undef, .undef, .undef, .undef, .undef, .undef, .undef, .undef, .undef, .undef, .undef, .undef, .undef, .undef, .undef], [], []⟩ 9 0 163 [.c 1, .c 0, .c 1, .c 0] [] f163.code (finK tt Try.f163)
theorem f163.l0_eq (k n : Nat) (p0 : List Int) (p1 : List Bool) (p2 : Int) (p3 : List (Int × Int × Int)) (p4 : Int) (p5 : Int) : f163.l0 k (n + 1) p0 p1 p2 p3 p4 p5 =
  bif decide (p5 < p4) then (chk (decide ((0 : Int) ≤ p5 ∧ p5 < (↑p3.length : Int))) (bif (rd ((Ty.int Go.IntKind.i64).pair ((Ty.int Go.IntKind.i64).pair (Ty.int Go.IntKind.i64))) p3 p5).fst == p2 then (chk (decide ((0 : Int) ≤ (rd ((Ty.int Go.IntKind.i64).pair ((Ty.int Go.IntKind.i64).pair (Ty.int Go.IntKind.i64))) p3 p5).snd.fst ∧ (rd ((Ty.int Go.IntKind.i64).pair ((Ty.int Go.IntKind.i64).pair (Ty.int Go.IntKind.i64))) p3 p5).snd.fst < (↑p1.length : Int))) (bif rd Ty.bool p1 (rd ((Ty.int Go.IntKind.i64).pair ((Ty.int Go.IntKind.i64).pair (Ty.int Go.IntKind.i64))) p3 p5).snd.fst then (chk (decide ((0 : Int) ≤ p5 ∧ p5 < (↑p0.length : Int))) (bif decide (rd (Ty.int Go.IntKind.i64) p0 p5 > (0 : Int)) then (some (.int .i64 (p5))) else (f163.l0 k n (p0) (p1) (p2) (p3) (p4) (Go.IntKind.i64.wrap (p5 + (1 : Int)))))) else (f163.l0 k n (p0) (p1) (p2) (p3) (p4) (Go.IntKind.i64.wrap (p5 + (1 : Int)))))) else (f163.l0 k n (p0) (p1) (p2) (p3) (p4) (Go.IntKind.i64.wrap (p5 + (1 : Int)))))) else (some (.int .i64 ((-1 : Int)))) := by kernel_rfl
theorem f163.eq (k : Nat) (x0 : Int × List (Int × Int × Int)) (x1 : List Int) (x2 : List Bool) (x3 : Int) : evFn (f163.E k) 9 163 Try.f163 [(.agg [(.int .i64 (x0.fst)), (.ro (.pair (.int .i64) (.pair (.int .i64) (.int .i64))) (x0.snd))]), (.ro (.int .i64) (x1)), (.ro .bool (x2)), (.int .i64 (x3))] =
  f163.l0 k k (x1) (x2) (x3) (x0.snd) ((↑(List.length x0.snd) : Int)) ((0 : Int)) := by kernel_rfl
theorem f163.inl (k : Nat) : InlOk Try.prog (f163.E k) := inl_nil
theorem f163.sums (k : Nat) : SumsOk Try.prog (f163.E k) := sums_nil
noncomputable def f111.E (k : Nat) : Env := mkEnv tt [] [] [(111, 2, [.kill (rg [(2, 6), (9, 18)]), .tidy])] [] k
noncomputable def f111.code : Go.Code := (Go.Func.body Try.f111).getD .skip
noncomputable def f111.l0 (k n : Nat) (p0 : List Int) (p1 : Int) (p2 : Int) (p3 : Int) : Option V :=
  atPath (f111.E k) n ⟨[(.ro (.int .i64) (p0)), (.int .i64 (p1)), .undef, .undef, .undef, .undef, .undef, (.int .i64 (p2)), (.int .i64 (p3)), .undef, .undef, .undef, .undef, .undef, .undef, .undef, .undef, .undef, .undef], [], []⟩ 9 0 111 [.c 1, .c 0, .c 1, .c 0] [] f111.code (finK tt Try.f111)
theorem f111.l0_eq (k n : Nat) (p0 : List Int) (p1 : Int) (p2 : Int) (p3 : Int) : f111.l0 k (n + 1) p0 p1 p2 p3 =
  bif decide (p3 < p2) then (chk (decide ((0 : Int) ≤ p3 ∧ p3 < (↑p0.length : Int))) (bif p1 == rd (Ty.int Go.IntKind.i64) p0 p3 then (some (.int .i64 (p3))) else (f111.l0 k n (p0) (p1) (p2) (Go.IntKind.i64.wrap (p3 + (1 : Int)))))) else (some (.int .i64 ((-1 : Int)))) := by kernel_rfl
theorem f111.eq (k : Nat) (x0 : List Int) (x1 : Int) : evFn (f111.E k) 9 111 Try.f111 [(.ro (.int .i64) (x0)), (.int .i64 (x1))] =
  f111.l0 k k (x0) (x1) ((↑x0.length : Int)) ((0 : Int)) := by kernel_rfl
theorem f111.inl (k : Nat) : InlOk Try.prog (f111.E k) := inl_nil
theorem f111.sums (k : Nat) : SumsOk Try.prog (f111.E k) := sums_nil
noncomputable def f162.E (k : Nat) : Env := mkEnv tt [] [] [(162, 2, [.kill (rg [(2, 6), (9, 18)]), .tidy])] [] k
noncomputable def f162.code : Go.Code := (Go.Func.body Try.f162).getD .skip
noncomputable def f162.l0 (k n : Nat) (p0 : List Bool) (p1 : Bool) (p2 : Int) (p3 : Int) : Option V :=
  atPath (f162.E k) n ⟨[(.ro .bool (p0)), (.bool (p1)), .undef, .undef, .undef, .undef, .undef, (.int .i64 (p2)), (.int .i64 (p3)), .undef, .undef, .undef, .undef, .undef, .undef, .undef, .undef, .undef, .undef], [], []⟩ 9 0 162 [.c 1, .c 0, .c 1, .c 0] [] f162.code (finK tt Try.f162)
theorem f162.l0_eq (k n : Nat) (p0 : List Bool) (p1 : Bool) (p2 : Int) (p3 : Int) : f162.l0 k (n + 1) p0 p1 p2 p3 =
  bif decide (p3 < p2) then (chk (decide ((0 : Int) ≤ p3 ∧ p3 < (↑p0.length : Int))) (bif p1 == rd Ty.bool p0 p3 then (some (.int .i64 (p3))) else (f162.l0 k n (p0) (p1) (p2) (Go.IntKind.i64.wrap (p3 + (1 : Int)))))) else (some (.int .i64 ((-1 : Int)))) := by kernel_rfl
theorem f162.eq (k : Nat) (x0 : List Bool) (x1 : Bool) : evFn (f162.E k) 9 162 Try.f162 [(.ro .bool (x0)), (.bool (x1))] =
  f162.l0 k k (x0) (x1) ((↑x0.length : Int)) ((0 : Int)) := by kernel_rfl
theorem f162.inl (k : Nat) : InlOk Try.prog (f162.E k) := inl_nil
theorem f162.sums (k : Nat) : SumsOk Try.prog (f162.E k) := sums_nil
noncomputable def f143.E (k : Nat) : Env := mkEnv tt [] [] [(143, 3, [.kill (rg [(1, 4), (6, 7), (11, 22)]), .tidy])] [] k
noncomputable def f143.code : Go.Code := (Go.Func.body Try.f143).getD .skip
noncomputable def f143.l0 (k n : Nat) (p0 : List Int) (p1 : List Int) (p2 : Int) (p3 : Int) (p4 : List Int) : Option V :=
  atPath (f143.E k) n ⟨[(.ro (.int .i64) (p0)), .undef, .undef, .undef, .undef, (.slw (1310736 : Nat)), .undef, .undef, (.ro (.int .i64) (p1)), (.int .i64 (p2)), (.int .i64 (p3)), .undef, .undef, .undef, .undef, .undef, .undef, .undef, .undef, .undef, .undef, .undef, .undef], [], [((1310736 : Nat), .row (.int .i64) (p4))]⟩ 9 0 143 [.c 1, .c 1, .c 0, .c 1, .c 0] [] f143.code (finK tt Try.f143)
theorem f143.l0_eq (k n : Nat) (p0 : List Int) (p1 : List Int) (p2 : Int) (p3 : Int) (p4 : List Int) : f143.l0 k (n + 1) p0 p1 p2 p3 p4 =
  bif decide (p3 < p2) then (chk (decide ((0 : Int) ≤ p3 ∧ p3 < (↑p1.length : Int))) (chk (decide ((0 : Int) ≤ rd (Ty.int Go.IntKind.i64) p1 p3 ∧ rd (Ty.int Go.IntKind.i64) p1 p3 < (↑p0.length : Int))) (chk (decide ((p4 ++ [rd (Ty.int Go.IntKind.i64) p0 (rd (Ty.int Go.IntKind.i64) p1 p3)]).length * (8 : Nat) ≤ (140737488355328 : Nat))) (f143.l0 k n (p0) (p1) (p2) (Go.IntKind.i64.wrap (p3 + (1 : Int))) (p4 ++ [rd (Ty.int Go.IntKind.i64) p0 (rd (Ty.int Go.IntKind.i64) p1 p3)]))))) else (some (.own (.int .i64) (p4))) := by kernel_rfl
theorem f143.eq (k : Nat) (x0 : List Int) (x1 : List Int) : evFn (f143.E k) 9 143 Try.f143 [(.ro (.int .i64) (x0)), (.ro (.int .i64) (x1))] =
  f143.l0 k k (x0) (x1) ((↑x1.length : Int)) ((0 : Int)) ([]) := by kernel_rfl
theorem f143.inl (k : Nat) : InlOk Try.prog (f143.E k) := inl_nil
theorem f143.sums (k : Nat) : SumsOk Try.prog (f143.E k) := sums_nil
noncomputable def f141.E (k : Nat) : Env := mkEnv tt [(128, S128), (137, S137)] [] [] [] k
noncomputable def f141.code : Go.Code := (Go.Func.body Try.f141).getD .skip
theorem f141.eq (k : Nat) (x0 : Int × List (Int × Int × Int)) (x1 : List Int) : evFn (f141.E k) 9 141 Try.f141 [(.agg [(.int .i64 (x0.fst)), (.ro (.pair (.int .i64) (.pair (.int .i64) (.int .i64))) (x0.snd))]), (.ro (.int .i64) (x1))] =
  (chk (decide (List.length x0.snd ≤ (16777216 : Nat))) (some (capsOf x0))).bind (fun y0 => some (.bool (liesB x0 y0 x1))) := by kernel_rfl
theorem f141.inl (k : Nat) : InlOk Try.prog (f141.E k) := inl_nil
theorem f141.sums (k : Nat) : SumsOk Try.prog (f141.E k) := (sums_cons ok128 (sums_cons ok137 sums_nil))
noncomputable def f144.E (k : Nat) : Env := mkEnv tt [] [] [(144, 2, [.kill (rg [(0, 0), (3, 9), (13, 29)]), .tidy])] [] k
noncomputable def f144.code : Go.Code := (Go.Func.body Try.f144).getD .skip
noncomputable def f144.l0 (k n : Nat) (p0 : List Int) (p1 : Int) (p2 : List (Int × Int × Int)) (p3 : Int) (p4 : Int) : Option V :=
  atPath (f144.E k) n ⟨[.undef, (.ro (.int .i64) (p0)), (.int .i64 (p1)), .undef, .undef, .undef, .undef, .undef, .undef, .undef, (.ro (.pair (.int .i64) (.pair (.int .i64) (.int .i64))) (p2)), (.int .i64 (p3)), (.int .i64 (p4)), .undef, .undef, .undef, .undef, .undef, .undef, .undef, .undef, .undef, .undef, .undef, .undef, .undef, .undef, .undef, .undef, .undef], [], []⟩ 9 0 144 [.c 1, .c 0, .c 1, .c 0] [] f144.code (finK tt Try.f144)
theorem f144.l0_eq (k n : Nat) (p0 : List Int) (p1 : Int) (p2 : List (Int × Int × Int)) (p3 : Int) (p4 : Int) : f144.l0 k (n + 1) p0 p1 p2 p3 p4 =
  bif decide (p4 < p3) then (chk (decide ((0 : Int) ≤ p4 ∧ p4 < (↑p2.length : Int))) (bif (rd ((Ty.int Go.IntKind.i64).pair ((Ty.int Go.IntKind.i64).pair (Ty.int Go.IntKind.i64))) p2 p4).fst == p1 then (chk (decide ((0 : Int) ≤ p4 ∧ p4 < (↑p0.length : Int))) (bif decide (rd (Ty.int Go.IntKind.i64) p0 p4 > (0 : Int)) then (some (.int .i64 (p4))) else (f144.l0 k n (p0) (p1) (p2) (p3) (Go.IntKind.i64.wrap (p4 + (1 : Int)))))) else (f144.l0 k n (p0) (p1) (p2) (p3) (Go.IntKind.i64.wrap (p4 + (1 : Int)))))) else (some (.int .i64 ((-1 : Int)))) := by kernel_rfl
theorem f144.eq (k : Nat) (x0 : Int × List (Int × Int × Int)) (x1 : List Int) (x2 : Int) : evFn (f144.E k) 9 144 Try.f144 [(.agg [(.int .i64 (x0.fst)), (.ro (.pair (.int .i64) (.pair (.int .i64) (.int .i64))) (x0.snd))]), (.ro (.int .i64) (x1)), (.int .i64 (x2))] =
  f144.l0 k k (x1) (x2) (x0.snd) ((↑(List.length x0.snd) : Int)) ((0 : Int)) := by kernel_rfl
theorem f144.inl (k : Nat) : InlOk Try.prog (f144.E k) := inl_nil
theorem f144.sums (k : Nat) : SumsOk Try.prog (f144.E k) := sums_nil
end

section
set_option linter.unusedVariables false
set_option maxRecDepth 100000

/-- The first number below n that is told of, or -1. -/
def searchI (n : Nat) (p : Int → Bool) : Int := ((upto n).find? p).getD (-1)

theorem searchI_cases (n : Nat) (p : Int → Bool) : (searchI n p = -1 ∧ ∀ i, 0 ≤ i ∧ i < (n : Int) → p i = false) ∨ ((0 ≤ searchI n p ∧ searchI n p < (n : Int)) ∧ p (searchI n p) = true) := by
  unfold searchI
  cases h : (upto n).find? p with
  | none =>
    refine .inl ⟨rfl, fun i hi => ?_⟩
    have := List.find?_eq_none.1 h i (upto_mem.2 hi)
    simpa using this
  | some a =>
    refine .inr ⟨upto_mem.1 (List.mem_of_find?_eq_some h), List.find?_some h⟩

theorem search_loop (F : Nat → Int → Option V) (len : Nat) (p : Int → Bool) (hstep : ∀ (n i : Nat), i < len → F (n + 1) (i : Int) = bif p (i : Int) then some (.int .i64 (i : Int)) else F n ((i + 1 : Nat) : Int)) (hend : ∀ n, F (n + 1) (len : Int) = some (.int .i64 (-1))) :
    ∀ (n i : Nat), i ≤ len → len < n + i → F n (i : Int) = some (.int .i64 ((((upto len).drop i).find? p).getD (-1)))
  | 0, i, h, h' => by omega
  | n + 1, i, h, h' => by
    by_cases hlt : i < len
    · have hu : i < (upto len).length := by rw [upto_length]; exact hlt
      have hg : (upto len)[i] = (i : Int) := (List.getElem?_eq_some_iff.1 (upto_get hlt)).2
      rw [hstep n i hlt, List.drop_eq_getElem_cons hu, hg, List.find?_cons]
      cases p (i : Int) with
      | true => rw [cT]; rfl
      | false => rw [cF, search_loop F len p hstep hend n (i + 1) (by omega) (by omega)]
    · obtain rfl : i = len := by omega
      rw [hend, List.drop_eq_nil_of_le (by rw [upto_length]; omega)]
      rfl

def rdB (st : List Bool) (i : Int) : Bool := rd .bool st i

def onB (gl : List Lk) (f : List Int) (st : List Bool) (v i : Int) : Bool := ((lk gl i).1 == v) && (rdB st (lk gl i).2.1 && decide (rdI f i > 0))
def onA (gl : List Lk) (f : List Int) (st : List Bool) (v : Int) : Int := searchI gl.length (onB gl f st v)
def nextB (gl : List Lk) (f : List Int) (v i : Int) : Bool := ((lk gl i).1 == v) && decide (rdI f i > 0)
def nextA (gl : List Lk) (f : List Int) (v : Int) : Int := searchI gl.length (nextB gl f v)

theorem lk_at {g : Gr} (hg : graphMay g = true) {i : Int} (hi : 0 ≤ i ∧ i < (g.2.length : Int)) : (0 ≤ (lk g.2 i).1 ∧ (lk g.2 i).1 < g.1) ∧ (0 ≤ (lk g.2 i).2.1 ∧ (lk g.2 i).2.1 < g.1) ∧ (lk g.2 i).1 ≠ (lk g.2 i).2.1 := by
  have hlt : i.toNat < g.2.length := by omega
  have hx := List.getElem?_eq_getElem hlt
  have e : lk g.2 i = g.2[i.toNat] := by
    have := rd_some (t := tLk) hx
    rw [show ((i.toNat : Nat) : Int) = i by omega] at this
    exact this
  rw [e]
  exact link_at hg hx

@[reducible] def tBL : Ty := .list .bool
def onForm (d : Gr × (List Int × (List Bool × Int))) : Bool := graphMay d.1 && (d.2.1.length == d.1.2.length && ((d.2.2.1.length : Int) == d.1.1))
noncomputable def S163 : Summ := summ [tG, tL, tBL, tI] Int (fun (d : Gr × (List Int × (List Bool × Int))) => chk (onForm d) (some (onA d.1.2 d.2.1 d.2.2.1 d.2.2.2))) (.int .i64)
theorem ok163 : SumOk Try.prog 163 S163 :=
  sum_k hmix f163.E (fn := Try.f163) (code := f163.code) (by kernel_rfl) (by kernel_rfl) (by kernel_rfl) (fun _ => ttOk) f163.sums f163.inl fun (d : Gr × (List Int × (List Bool × Int))) x hx => by
    obtain ⟨g, f, st, v⟩ := d
    obtain ⟨hg, hx⟩ := chk_some hx
    obtain rfl := Option.some.inj hx
    unfold onForm at hg
    simp only [Bool.and_eq_true] at hg
    obtain ⟨hg, hl, hs⟩ := hg
    have hl := eq_of_beq hl
    have hs := eq_of_beq hs
    have hp := graphMay_parts hg
    refine ⟨g.2.length + 1, (f163.eq _ g f st v).trans ?_⟩
    have := search_loop (fun n i => f163.l0 (g.2.length + 1) n f st v g.2 (g.2.length : Int) i) g.2.length (onB g.2 f st v) (fun n i hi => ?_) (fun n => ?_) (g.2.length + 1) 0 (by omega) (by omega)
    · exact this
    · have hk := lk_at hg (i := (i : Int)) (by omega)
      rw [f163.l0_eq, decide_eq_true (by omega : (i : Int) < (g.2.length : Int)), cT, decide_eq_true (by omega : (0 : Int) ≤ (i : Int) ∧ (i : Int) < (g.2.length : Int)), kT, wrap_succ (by omega)]
      have c1 : decide ((0 : Int) ≤ (lk g.2 i).2.1 ∧ (lk g.2 i).2.1 < (st.length : Int)) = true := decide_eq_true (by omega)
      have c2 : decide ((0 : Int) ≤ (i : Int) ∧ (i : Int) < (f.length : Int)) = true := decide_eq_true (by omega)
      unfold onB
      show (bif (lk g.2 i).1 == v then chk (decide ((0 : Int) ≤ (lk g.2 i).2.1 ∧ (lk g.2 i).2.1 < (st.length : Int))) (bif rdB st (lk g.2 i).2.1 then chk (decide ((0 : Int) ≤ (i : Int) ∧ (i : Int) < (f.length : Int))) (bif decide (rdI f i > 0) then _ else _) else _) else _) = _
      rw [c1, c2, kT, kT]
      cases (lk g.2 i).1 == v <;> cases rdB st (lk g.2 i).2.1 <;> cases decide (rdI f i > 0) <;> simp only [cT, cF, Bool.true_and, Bool.false_and, Bool.and_false]
    · rw [f163.l0_eq, decide_eq_false (by omega : ¬ (g.2.length : Int) < (g.2.length : Int)), cF]

def nextForm (d : Gr × (List Int × Int)) : Bool := graphMay d.1 && (d.2.1.length == d.1.2.length)
noncomputable def S144 : Summ := summ [tG, tL, tI] Int (fun (d : Gr × (List Int × Int)) => chk (nextForm d) (some (nextA d.1.2 d.2.1 d.2.2))) (.int .i64)
theorem ok144 : SumOk Try.prog 144 S144 :=
  sum_k hmix f144.E (fn := Try.f144) (code := f144.code) (by kernel_rfl) (by kernel_rfl) (by kernel_rfl) (fun _ => ttOk) f144.sums f144.inl fun (d : Gr × (List Int × Int)) x hx => by
    obtain ⟨g, f, v⟩ := d
    obtain ⟨hg, hx⟩ := chk_some hx
    obtain rfl := Option.some.inj hx
    unfold nextForm at hg
    simp only [Bool.and_eq_true] at hg
    obtain ⟨hg, hl⟩ := hg
    have hl := eq_of_beq hl
    have hp := graphMay_parts hg
    refine ⟨g.2.length + 1, (f144.eq _ g f v).trans ?_⟩
    have := search_loop (fun n i => f144.l0 (g.2.length + 1) n f v g.2 (g.2.length : Int) i) g.2.length (nextB g.2 f v) (fun n i hi => ?_) (fun n => ?_) (g.2.length + 1) 0 (by omega) (by omega)
    · exact this
    · rw [f144.l0_eq, decide_eq_true (by omega : (i : Int) < (g.2.length : Int)), cT, decide_eq_true (by omega : (0 : Int) ≤ (i : Int) ∧ (i : Int) < (g.2.length : Int)), kT, wrap_succ (by omega)]
      have c2 : decide ((0 : Int) ≤ (i : Int) ∧ (i : Int) < (f.length : Int)) = true := decide_eq_true (by omega)
      unfold nextB
      show (bif (lk g.2 i).1 == v then chk (decide ((0 : Int) ≤ (i : Int) ∧ (i : Int) < (f.length : Int))) (bif decide (rdI f i > 0) then _ else _) else _) = _
      rw [c2, kT]
      cases (lk g.2 i).1 == v <;> cases decide (rdI f i > 0) <;> simp only [cT, cF, Bool.true_and, Bool.false_and]
    · rw [f144.l0_eq, decide_eq_false (by omega : ¬ (g.2.length : Int) < (g.2.length : Int)), cF]

noncomputable def S111 : Summ := summ [tL, tI] Int (fun (d : List Int × Int) => chk (decide (d.1.length < 4611686018427387904)) (some (searchI d.1.length fun i => d.2 == rdI d.1 i))) (.int .i64)
theorem ok111 : SumOk Try.prog 111 S111 :=
  sum_k hmix f111.E (fn := Try.f111) (code := f111.code) (by kernel_rfl) (by kernel_rfl) (by kernel_rfl) (fun _ => ttOk) f111.sums f111.inl fun (d : List Int × Int) x hx => by
    obtain ⟨xs, v⟩ := d
    obtain ⟨hl, hx⟩ := chk_some hx
    obtain rfl := Option.some.inj hx
    have hl : xs.length < 4611686018427387904 := of_decide_eq_true hl
    refine ⟨xs.length + 1, (f111.eq _ xs v).trans ?_⟩
    have := search_loop (fun n i => f111.l0 (xs.length + 1) n xs v (xs.length : Int) i) xs.length (fun i => v == rdI xs i) (fun n i hi => ?_) (fun n => ?_) (xs.length + 1) 0 (by omega) (by omega)
    · exact this
    · rw [f111.l0_eq, decide_eq_true (by omega : (i : Int) < (xs.length : Int)), cT, decide_eq_true (by omega : (0 : Int) ≤ (i : Int) ∧ (i : Int) < (xs.length : Int)), kT, wrap_succ (by omega)]
      rfl
    · rw [f111.l0_eq, decide_eq_false (by omega : ¬ (xs.length : Int) < (xs.length : Int)), cF]

noncomputable def S162 : Summ := summ [tBL, .bool] Int (fun (d : List Bool × Bool) => chk (decide (d.1.length < 4611686018427387904)) (some (searchI d.1.length fun i => d.2 == rdB d.1 i))) (.int .i64)
theorem ok162 : SumOk Try.prog 162 S162 :=
  sum_k hmix f162.E (fn := Try.f162) (code := f162.code) (by kernel_rfl) (by kernel_rfl) (by kernel_rfl) (fun _ => ttOk) f162.sums f162.inl fun (d : List Bool × Bool) x hx => by
    obtain ⟨xs, v⟩ := d
    obtain ⟨hl, hx⟩ := chk_some hx
    obtain rfl := Option.some.inj hx
    have hl : xs.length < 4611686018427387904 := of_decide_eq_true hl
    refine ⟨xs.length + 1, (f162.eq _ xs v).trans ?_⟩
    have := search_loop (fun n i => f162.l0 (xs.length + 1) n xs v (xs.length : Int) i) xs.length (fun i => v == rdB xs i) (fun n i hi => ?_) (fun n => ?_) (xs.length + 1) 0 (by omega) (by omega)
    · exact this
    · rw [f162.l0_eq, decide_eq_true (by omega : (i : Int) < (xs.length : Int)), cT, decide_eq_true (by omega : (0 : Int) ≤ (i : Int) ∧ (i : Int) < (xs.length : Int)), kT, wrap_succ (by omega)]
      rfl
    · rw [f162.l0_eq, decide_eq_false (by omega : ¬ (xs.length : Int) < (xs.length : Int)), cF]

/-- What f is along links. -/
def inL (n : Nat) (ws : List Int) : Bool := ws.all fun l => decide (0 ≤ l ∧ l < (n : Int))
noncomputable def S143 : Summ := summ [tL, tL] (List Int) (fun (d : List Int × List Int) => chk (decide (d.2.length ≤ 64) && inL d.1.length d.2) (some (d.2.map (rdI d.1)))) (.own tI)
theorem f143.l0_is (k : Nat) (f ws : List Int) (hl : ws.length ≤ 64) (hw : inL f.length ws = true) : ∀ (n i : Nat), i ≤ ws.length → ws.length < n + i → f143.l0 k n f ws (ws.length : Int) (i : Int) ((ws.take i).map (rdI f)) = some (.own tI (ws.map (rdI f)))
  | 0, i, h, h' => by omega
  | n + 1, i, h, h' => by
    rw [f143.l0_eq]
    by_cases hlt : i < ws.length
    · have hx := List.getElem?_eq_getElem hlt
      have h1 := of_decide_eq_true (List.all_eq_true.1 hw _ (List.getElem_mem hlt))
      have e1 : rd (Ty.int Go.IntKind.i64) ws (i : Int) = ws[i] := rd_some (t := tI) hx
      have e2 : rd (Ty.int Go.IntKind.i64) f ws[i] = rdI f ws[i] := rfl
      rw [e1, e2, decide_eq_true (by omega : (i : Int) < (ws.length : Int)), cT, decide_eq_true (by omega : (0 : Int) ≤ (i : Int) ∧ (i : Int) < (ws.length : Int)), kT, decide_eq_true h1, kT,
        decide_eq_true (by rw [List.length_append, List.length_map, List.length_take, List.length_singleton]; omega : ((ws.take i).map (rdI f) ++ [rdI f ws[i]]).length * 8 ≤ 140737488355328), kT, wrap_succ (by omega),
        ← f143.l0_is k f ws hl hw n (i + 1) (by omega) (by omega), List.take_add_one, hx, List.map_append]
      rfl
    · obtain rfl : i = ws.length := by omega
      rw [decide_eq_false (by omega : ¬ (ws.length : Int) < (ws.length : Int)), cF, List.take_length]
theorem ok143 : SumOk Try.prog 143 S143 :=
  sum_k hmix f143.E (fn := Try.f143) (code := f143.code) (by kernel_rfl) (by kernel_rfl) (by kernel_rfl) (fun _ => ttOk) f143.sums f143.inl fun (d : List Int × List Int) x hx => by
    obtain ⟨f, ws⟩ := d
    obtain ⟨h, hx⟩ := chk_some hx
    obtain rfl := Option.some.inj hx
    rw [Bool.and_eq_true] at h
    exact ⟨ws.length + 1, (f143.eq _ f ws).trans (f143.l0_is _ f ws (of_decide_eq_true h.1) h.2 (ws.length + 1) 0 (by omega) (by omega))⟩

theorem capsMay_own {g : Gr} (h : graphMay g = true) : capsMay g (capsOf g) = true := by
  have h' := h
  unfold graphMay at h'
  rw [Bool.and_eq_true] at h'
  obtain ⟨t, ht⟩ := Option.isSome_iff_exists.1 h'.2
  have a := (sumUp_lo _ _ _ ht (by omega) (by decide)).2.2
  unfold capsMay
  rw [h, Bool.true_and]
  refine withinL_of (by simp [capsOf]) fun i c l hc hl => ?_
  have : (capsOf g)[i]? = some l.2.2 := by simp [capsOf, hl]
  rw [this] at hc
  obtain rfl := Option.some.inj hc
  exact ⟨(a _ (List.mem_of_getElem? this)).1, Int.le_refl _⟩

theorem lies_own {g : Gr} (h : graphMay g = true) (f : List Int) : liesB g (capsOf g) f = capsMay g f := by
  cases hf : capsMay g f with
  | true =>
    have hl := capsMay_len hf
    have hf' := hf
    unfold capsMay at hf'
    rw [Bool.and_eq_true] at hf'
    unfold liesB
    rw [capsMay_own h, Bool.true_and]
    refine withinF_of (by simp [capsOf, hl]) fun i x c hx hc => ?_
    have hi : i < g.2.length := by rw [← hl]; exact idx_lt hx
    have hl' := List.getElem?_eq_getElem hi
    have : (capsOf g)[i]? = some g.2[i].2.2 := by simp [capsOf, hi]
    rw [this] at hc
    obtain rfl := Option.some.inj hc
    exact withinL_at hf'.2 hx hl'
  | false =>
    cases hb : liesB g (capsOf g) f with
    | true => rw [lies_caps hb] at hf; cases hf
    | false => rfl

noncomputable def S141 : Summ := summ [tG, tL] Bool (fun (d : Gr × List Int) => chk (graphMay d.1) (some (capsMay d.1 d.2))) .bool
theorem ok141 : SumOk Try.prog 141 S141 :=
  sum_k hmix f141.E (fn := Try.f141) (code := f141.code) (by kernel_rfl) (by kernel_rfl) (by kernel_rfl) (fun _ => ttOk) f141.sums f141.inl fun (d : Gr × List Int) x hx => by
    obtain ⟨g, f⟩ := d
    obtain ⟨h, hx⟩ := chk_some hx
    obtain rfl := Option.some.inj hx
    have h : graphMay g = true := h
    have hp := graphMay_parts h
    refine ⟨1, (f141.eq _ g f).trans ?_⟩
    rw [decide_eq_true (by omega : g.2.length ≤ 16777216), kT, bS, lies_own h]
end

section
set_option maxRecDepth 100000
set_option linter.unusedVariables false
noncomputable def f161.E (k : Nat) : Env := mkEnv tt [(163, S163), (173, S173)] [] [(161, 5, [.kill (rg [(0, 0), (3, 4), (6, 11), (14, 15), (18, 37)]), .tidy]), (161, 3, [.kill (rg [(0, 0), (3, 4), (6, 11), (14, 37)]), .tidy])] [] k
noncomputable def f161.code : Go.Code := (Go.Func.body Try.f161).getD .skip
noncomputable def f161.l0 (k n : Nat) (p0 : List Int) (p1 : Int) (p2 : Int) (p3 : List (Int × Int × Int)) (p4 : List Bool) : Option V :=
  atPath (f161.E k) n ⟨[.undef, (.ro (.int .i64) (p0)), (.ptr (524304 : Nat) ((0 : Nat)) ((0 : Nat))), .undef, .undef, (.slw (1310736 : Nat)), .undef, .undef, .undef, .undef, .undef, .undef, (.int .i64 (p1)), (.int .i64 (p2)), .undef, .undef, .undef, .undef, .undef, .undef, .undef, .undef, .undef, .undef, .undef, .undef, .undef, .undef, .undef, .undef, .undef, .undef, .undef, .undef, .undef, .undef, .undef, .undef], [], [((524304 : Nat), .box [(.int .i64 (p1)), (.ro (.pair (.int .i64) (.pair (.int .i64) (.int .i64))) (p3))]), ((1310736 : Nat), .row .bool (p4))]⟩ 9 0 161 [.c 1, .c 1, .c 0, .c 1, .c 0] [] f161.code (finK tt Try.f161)
noncomputable def f161.l1 (k n m0 : Nat) (p0 : List Int) (p1 : Int) (p2 : Int) (p3 : Int) (p4 : Int) (p5 : List (Int × Int × Int)) (p6 : List Bool) : Option V :=
  atPath (f161.E k) n ⟨[.undef, (.ro (.int .i64) (p0)), (.ptr (524304 : Nat) ((0 : Nat)) ((0 : Nat))), .undef, .undef, (.slw (1310736 : Nat)), .undef, .undef, .undef, .undef, .undef, .undef, (.int .i64 (p1)), (.int .i64 (p2)), .undef, .undef, (.int .i64 (p3)), (.int .i64 (p4)), .undef, .undef, .undef, .undef, .undef, .undef, .undef, .undef, .undef, .undef, .undef, .undef, .undef, .undef, .undef, .undef, .undef, .undef, .undef, .undef], [], [((524304 : Nat), .box [(.int .i64 (p1)), (.ro (.pair (.int .i64) (.pair (.int .i64) (.int .i64))) (p5))]), ((1310736 : Nat), .row .bool (p6))]⟩ 9 0 161 [.c 1, .c 1, .c 0, .c 1, .c 0, .c 0, .c 1, .c 1, .c 0, .c 0, .c 1, .c 0] [m0] f161.code (finK tt Try.f161)
theorem f161.l0_eq (k n : Nat) (p0 : List Int) (p1 : Int) (p2 : Int) (p3 : List (Int × Int × Int)) (p4 : List Bool) : f161.l0 k (n + 1) p0 p1 p2 p3 p4 =
  bif decide (p2 < p1) then (f161.l1 k k n (p0) (p1) (p2) ((↑p4.length : Int)) ((0 : Int)) (p3) (p4)) else (some (.own .bool (p4))) := by kernel_rfl
theorem f161.l1_eq (k n m0 : Nat) (p0 : List Int) (p1 : Int) (p2 : Int) (p3 : Int) (p4 : Int) (p5 : List (Int × Int × Int)) (p6 : List Bool) : f161.l1 k (n + 1) m0 p0 p1 p2 p3 p4 p5 p6 =
  bif decide (p4 < p3) then (chk (decide ((0 : Int) ≤ p4 ∧ p4 < (↑p6.length : Int))) (bif rd Ty.bool p6 (↑p4.toNat : Int) then ((chk (onForm ((p1, p5), p0, p6, p4)) (some (onA p5 p0 p6 p4))).bind (fun y0 => chk (decide ((0 : Int) ≤ p4 ∧ p4 < (↑p6.length : Int))) (f161.l1 k n m0 (p0) (p1) (p2) (p3) (Go.IntKind.i64.wrap (p4 + (1 : Int))) (p5) (p6.set p4.toNat (decide (y0 ≥ (0 : Int))))))) else (chk (decide ((0 : Int) ≤ p4 ∧ p4 < (↑p6.length : Int))) (f161.l1 k n m0 (p0) (p1) (p2) (p3) (Go.IntKind.i64.wrap (p4 + (1 : Int))) (p5) (p6.set p4.toNat false))))) else (f161.l0 k m0 (p0) (p1) (Go.IntKind.i64.wrap (p2 + (1 : Int))) (p5) (p6)) := by kernel_rfl
theorem f161.eq (k : Nat) (x0 : Int × List (Int × Int × Int)) (x1 : List Int) : evFn (f161.E k) 9 161 Try.f161 [(.agg [(.int .i64 (x0.fst)), (.ro (.pair (.int .i64) (.pair (.int .i64) (.int .i64))) (x0.snd))]), (.ro (.int .i64) (x1))] =
  (chk ([true] == [true] && decide ((1 : Int) ≤ x0.fst ∧ x0.fst ≤ (8 : Int))) (some (List.replicate (Int.toNat x0.fst) true))).bind (fun y0 => f161.l0 k k (x1) (x0.fst) ((0 : Int)) (x0.snd) (y0)) := by kernel_rfl
theorem f161.inl (k : Nat) : InlOk Try.prog (f161.E k) := inl_nil
theorem f161.sums (k : Nat) : SumsOk Try.prog (f161.E k) := (sums_cons ok163 (sums_cons ok173 sums_nil))
end

section
set_option linter.unusedVariables false
set_option maxRecDepth 100000

def coreStep (gl : List Lk) (f : List Int) (st : List Bool) (v : Int) : List Bool := st.set v.toNat (rdB st v && decide (onA gl f st v ≥ 0))
def coreRound (gl : List Lk) (f : List Int) (m : Nat) (st : List Bool) : List Bool := (upto m).foldl (coreStep gl f) st
def coreN (gl : List Lk) (f : List Int) (m : Nat) : Nat → List Bool → List Bool
  | 0, st => st
  | n + 1, st => coreN gl f m n (coreRound gl f m st)
def coreOf (g : Gr) (f : List Int) : List Bool := coreN g.2 f g.1.toNat g.1.toNat (List.replicate g.1.toNat true)

theorem coreStep_len (gl : List Lk) (f : List Int) (st : List Bool) (v : Int) : (coreStep gl f st v).length = st.length := by simp [coreStep]
theorem coreFold_len (gl : List Lk) (f : List Int) : ∀ (l : List Int) (st : List Bool), (l.foldl (coreStep gl f) st).length = st.length
  | [], st => rfl
  | v :: l, st => by rw [List.foldl_cons, coreFold_len gl f l, coreStep_len]
theorem coreRound_len (gl : List Lk) (f : List Int) (m : Nat) (st : List Bool) : (coreRound gl f m st).length = st.length := coreFold_len gl f _ st

theorem f161.l1_is (k m0 : Nat) {g : Gr} (hg : graphMay g = true) {f : List Int} (hf : f.length = g.2.length) (r : Int) : ∀ (n i : Nat) (st : List Bool), i ≤ g.1.toNat → g.1.toNat < n + i → st.length = g.1.toNat →
    f161.l1 k n m0 f g.1 r (st.length : Int) (i : Int) g.2 st = f161.l0 k m0 f g.1 (Go.IntKind.i64.wrap (r + 1)) g.2 (((upto g.1.toNat).drop i).foldl (coreStep g.2 f) st)
  | 0, i, st, h, h', _ => by omega
  | n + 1, i, st, h, h', hs => by
    have hp := graphMay_parts hg
    rw [f161.l1_eq]
    by_cases hlt : i < g.1.toNat
    · have hu : i < (upto g.1.toNat).length := by rw [upto_length]; exact hlt
      have hv : (upto g.1.toNat)[i] = (i : Int) := (List.getElem?_eq_some_iff.1 (upto_get hlt)).2
      have c1 : decide ((0 : Int) ≤ (i : Int) ∧ (i : Int) < (st.length : Int)) = true := decide_eq_true (by omega)
      have c2 : onForm (((g.1, g.2), f, st, (i : Int)) : Gr × (List Int × (List Bool × Int))) = true := by
        unfold onForm
        dsimp only
        rw [show graphMay (g.1, g.2) = true from hg, hf, hs, show (((g.1.toNat : Nat) : Int) == g.1) = true by simp; omega]
        simp
      have e1 : rd Ty.bool st (((i : Int).toNat : Nat) : Int) = rdB st (i : Int) := by rw [Int.toNat_natCast]; rfl
      have hw : Go.IntKind.i64.wrap ((i : Int) + 1) = ((i + 1 : Nat) : Int) := wrap_succ (by omega)
      have es : coreStep g.2 f st (i : Int) = st.set (i : Int).toNat (rdB st (i : Int) && decide (onA g.2 f st (i : Int) ≥ 0)) := rfl
      have ih := f161.l1_is k m0 hg hf r n (i + 1) (coreStep g.2 f st (i : Int)) (by omega) (by omega) (by rw [coreStep_len, hs])
      rw [coreStep_len] at ih
      rw [decide_eq_true (by omega : (i : Int) < (st.length : Int)), cT, c1, kT, e1, c2, kT, bS, kT, kT, List.drop_eq_getElem_cons hu, hv, List.foldl_cons, ← ih, es, hw]
      cases rdB st (i : Int) <;> simp only [cT, cF, Bool.true_and, Bool.false_and]
    · obtain rfl : i = g.1.toNat := by omega
      rw [decide_eq_false (by omega : ¬ ((g.1.toNat : Nat) : Int) < (st.length : Int)), cF, List.drop_eq_nil_of_le (by rw [upto_length]; omega)]
      rfl

theorem f161.l0_is (k : Nat) {g : Gr} (hg : graphMay g = true) {f : List Int} (hf : f.length = g.2.length) (hk : 9 ≤ k) : ∀ (n j : Nat) (st : List Bool), j < n → j ≤ g.1.toNat → st.length = g.1.toNat →
    f161.l0 k n f g.1 (g.1 - (j : Int)) g.2 st = some (.own .bool (coreN g.2 f g.1.toNat j st))
  | 0, j, st, h, _, _ => by omega
  | n + 1, 0, st, h, hj, hs => by
    rw [f161.l0_eq, decide_eq_false (by omega : ¬ g.1 - ((0 : Nat) : Int) < g.1), cF]
    rfl
  | n + 1, j + 1, st, h, hj, hs => by
    have hp := graphMay_parts hg
    have e := f161.l1_is k n hg hf (g.1 - ((j + 1 : Nat) : Int)) k 0 st (by omega) (by omega) hs
    have hw : Go.IntKind.i64.wrap (g.1 - ((j + 1 : Nat) : Int) + 1) = g.1 - (j : Int) := by rw [wrap64 (by omega)]; omega
    rw [f161.l0_eq, decide_eq_true (by omega : g.1 - ((j + 1 : Nat) : Int) < g.1), cT]
    refine e.trans ?_
    rw [hw, List.drop_zero]
    exact f161.l0_is k hg hf hk n j (coreRound g.2 f g.1.toNat st) (by omega) (by omega) (by rw [coreRound_len, hs])

def flowForm (d : Gr × List Int) : Bool := graphMay d.1 && (d.2.length == d.1.2.length)
noncomputable def S161 : Summ := summ [tG, tL] (List Bool) (fun (d : Gr × List Int) => chk (flowForm d) (some (coreOf d.1 d.2))) (.own .bool)
theorem ok161 : SumOk Try.prog 161 S161 :=
  sum_k hmix f161.E (fn := Try.f161) (code := f161.code) (by kernel_rfl) (by kernel_rfl) (by kernel_rfl) (fun _ => ttOk) f161.sums f161.inl fun (d : Gr × List Int) x hx => by
    obtain ⟨g, f⟩ := d
    obtain ⟨h, hx⟩ := chk_some hx
    obtain rfl := Option.some.inj hx
    unfold flowForm at h
    rw [Bool.and_eq_true] at h
    obtain ⟨hg, hf⟩ := h
    have hg : graphMay g = true := hg
    have hf : f.length = g.2.length := eq_of_beq hf
    have hp := graphMay_parts hg
    refine ⟨9, (f161.eq _ g f).trans ?_⟩
    have := f161.l0_is 9 hg hf (by omega) 9 g.1.toNat (List.replicate g.1.toNat true) (by omega) (by omega) (by simp)
    rw [show g.1 - ((g.1.toNat : Nat) : Int) = 0 by omega] at this
    rw [show ([true] == [true] && decide ((1 : Int) ≤ g.1 ∧ g.1 ≤ (8 : Int))) = true by rw [decide_eq_true (by omega : (1 : Int) ≤ g.1 ∧ g.1 ≤ (8 : Int))]; rfl, kT, bS]
    exact this
end

section
set_option linter.unusedVariables false

/-- Links one behind the other. -/
def ChainL (gl : List Lk) : Int → List Int → Int → Prop
  | v, [], w => v = w
  | v, l :: ws, w => (lk gl l).1 = v ∧ ChainL gl (lk gl l).2.1 ws w
def vertsL (gl : List Lk) (v : Int) (ws : List Int) : List Int := v :: ws.map fun l => (lk gl l).2.1
def subL (b : Int) (f ws : List Int) : List Int := ws.foldl (fun f l => f.set l.toNat (rdI f l - b)) f

theorem ChainL.snoc {gl : List Lk} : ∀ {ws : List Int} {v w l : Int}, ChainL gl v ws w → (lk gl l).1 = w → ChainL gl v (ws ++ [l]) (lk gl l).2.1
  | [], v, w, l, h, h1 => ⟨h1.trans h.symm, rfl⟩
  | a :: ws, v, w, l, h, h1 => ⟨h.1, h.2.snoc h1⟩

theorem ChainL.drop {gl : List Lk} : ∀ {k : Nat} {ws : List Int} {v w u : Int}, ChainL gl v ws w → (vertsL gl v ws)[k]? = some u → ChainL gl u (ws.drop k) w
  | 0, ws, v, w, u, h, hu => by
    obtain rfl : v = u := by simpa [vertsL] using hu
    exact h
  | k + 1, [], v, w, u, h, hu => by simp [vertsL] at hu
  | k + 1, a :: ws, v, w, u, h, hu => ChainL.drop (k := k) (ws := ws) (v := (lk gl a).2.1) h.2 (by simpa [vertsL] using hu)

theorem ChainL.last {gl : List Lk} : ∀ {ws : List Int} {v w : Int}, ChainL gl v ws w → (vertsL gl v ws)[ws.length]? = some w
  | [], v, w, h => by simp [vertsL]; exact h
  | a :: ws, v, w, h => by
    have := ChainL.last h.2
    simpa [vertsL] using this

/-- Where the links of a chain begin. -/
theorem ChainL.froms {gl : List Lk} : ∀ {ws : List Int} {v w : Int}, ChainL gl v ws w → vertsL gl v ws = (ws.map fun l => (lk gl l).1) ++ [w]
  | [], v, w, h => by simp [vertsL]; exact h
  | a :: ws, v, w, h => by
    have := ChainL.froms h.2
    unfold vertsL at this ⊢
    rw [List.map_cons, this, List.map_cons, h.1]
    rfl

theorem subL_len (b : Int) : ∀ (ws f : List Int), (subL b f ws).length = f.length
  | [], f => rfl
  | a :: ws, f => by
    have := subL_len b ws (f.set a.toNat (rdI f a - b))
    rw [List.length_set] at this
    exact this

theorem sub_at {b : Int} : ∀ {ws f : List Int} {i : Int}, (∀ l ∈ ws, 0 ≤ l ∧ l < (f.length : Int)) → ws.Nodup → (0 ≤ i ∧ i < (f.length : Int)) → rdI (subL b f ws) i = rdI f i - bif decide (i ∈ ws) then b else 0
  | [], f, i, _, _, _ => by simp [subL]
  | a :: ws, f, i, hw, hn, hi => by
    have ha := hw a (by simp)
    rw [List.nodup_cons] at hn
    have e : subL b f (a :: ws) = subL b (f.set a.toNat (rdI f a - b)) ws := rfl
    rw [e, sub_at (fun l hl => by rw [List.length_set]; exact hw l (by simp [hl])) hn.2 (by rw [List.length_set]; exact hi), rdI_set ha hi]
    by_cases h : a = i
    · subst h
      rw [show (a == a) = true by simp, cT, decide_eq_false hn.1, cF, decide_eq_true (by simp : a ∈ a :: ws), cT]
      omega
    · rw [show (a == i) = false by simpa using h, cF]
      by_cases h2 : i ∈ ws
      · rw [decide_eq_true h2, decide_eq_true (by simp [h2] : i ∈ a :: ws)]
      · rw [decide_eq_false h2, decide_eq_false (by simp [h2, Ne.symm h] : ¬ i ∈ a :: ws)]

theorem gain_sub {gl : List Lk} {b v : Int} : ∀ {ws f : List Int} {u w : Int}, f.length = gl.length → (∀ l ∈ ws, 0 ≤ l ∧ l < (gl.length : Int)) → ChainL gl u ws w →
    gainV gl (subL b f ws) v = gainV gl f v - ((bif u == v then b else 0) - (bif w == v then b else 0))
  | [], f, u, w, _, _, h => by
    have h : u = w := h
    subst h
    simp only [subL, List.foldl_nil]
    omega
  | a :: ws, f, u, w, hl, hw, h => by
    have ha := hw a (by simp)
    have e : subL b f (a :: ws) = subL b (f.set a.toNat (rdI f a - b)) ws := rfl
    have hg : gl[a.toNat]? = some (lk gl a) := by
      have hi : a.toNat < gl.length := by omega
      have := rd_some (t := tLk) (List.getElem?_eq_getElem hi)
      rw [show ((a.toNat : Nat) : Int) = a by omega] at this
      rw [List.getElem?_eq_getElem hi]
      exact congrArg some this.symm
    have hs := gain_set (d := -b) (v := v) hg (rdI_get (f := f) (i := a) (by omega))
    rw [show rdI f a + -b = rdI f a - b by omega, h.1] at hs
    rw [e, gain_sub (by rw [List.length_set]; exact hl) (fun l hl => hw l (by simp [hl])) h.2, hs]
    cases u == v <;> cases (lk gl a).2.1 == v <;> cases w == v <;> simp only [cT, cF] <;> omega

/-- How many are above nothing. -/
def cntP (f : List Int) : Nat := f.countP fun x => decide (x > 0)
theorem cntP_le : ∀ {f f' : List Int}, f'.length = f.length → (∀ (i : Nat) (x y : Int), f[i]? = some x → f'[i]? = some y → y > 0 → x > 0) → cntP f' ≤ cntP f ∧ ∀ (i : Nat) (x y : Int), f[i]? = some x → f'[i]? = some y → x > 0 → ¬ y > 0 → cntP f' < cntP f
  | [], [], _, _ => ⟨Nat.le_refl _, by simp⟩
  | x :: f, y :: f', hl, h => by
    obtain ⟨h1, h2⟩ := cntP_le (f := f) (f' := f') (by simpa using hl) fun i x y hx hy => h (i + 1) x y (by simpa using hx) (by simpa using hy)
    have h0 := h 0 x y rfl rfl
    unfold cntP at h1 h2 ⊢
    rw [List.countP_cons, List.countP_cons]
    refine ⟨?_, fun i x' y' hx hy hp hn => ?_⟩
    · by_cases hy : y > 0
      · rw [decide_eq_true hy, decide_eq_true (h0 hy)]; omega
      · rw [decide_eq_false hy]; simp only [Bool.false_eq_true, if_false]; omega
    · cases i with
      | zero =>
        simp only [List.getElem?_cons_zero, Option.some.injEq] at hx hy
        subst hx hy
        rw [decide_eq_true hp, decide_eq_false hn]; simp only [Bool.false_eq_true, if_true, if_false]; omega
      | succ i =>
        have := h2 i x' y' (by simpa using hx) (by simpa using hy) hp hn
        by_cases hy : y > 0
        · rw [decide_eq_true hy, decide_eq_true (h0 hy)]; omega
        · rw [decide_eq_false hy]; simp only [Bool.false_eq_true, if_false]; omega
  | [], _ :: _, hl, _ => by simp at hl
  | _ :: _, [], hl, _ => by simp at hl

theorem cntP_len (f : List Int) : cntP f ≤ f.length := List.countP_le_length

theorem foldl_min_mem : ∀ (xs : List Int) (x : Int), xs.foldl min x = x ∨ xs.foldl min x ∈ xs
  | [], x => .inl rfl
  | y :: xs, x => by
    rw [List.foldl_cons]
    rcases foldl_min_mem xs (min x y) with h | h
    · rw [h]
      rcases Int.le_total x y with h' | h'
      · left; omega
      · right; rw [show min x y = y by omega]; simp
    · right; simp [h]

/-- Links without a way back. -/
def Acyc (gl : List Lk) (f : List Int) : Prop := ∃ r : Int → Nat, ∀ i, 0 ≤ i ∧ i < (gl.length : Int) → rdI f i > 0 → r (lk gl i).2.1 < r (lk gl i).1

theorem Acyc.less {gl : List Lk} {f f' : List Int} (h : Acyc gl f) (hl : ∀ i, 0 ≤ i ∧ i < (gl.length : Int) → rdI f' i > 0 → rdI f i > 0) : Acyc gl f' := by
  obtain ⟨r, hr⟩ := h
  exact ⟨r, fun i hi hp => hr i hi (hl i hi hp)⟩

/-! What stands. -/
def StRk (gl : List Lk) (f : List Int) (st : List Bool) (r : Int → Nat) (N : Nat) : Prop :=
  (∀ v, 0 ≤ v ∧ v < (st.length : Int) → rdB st v = false → r v < N) ∧
  ∀ i, 0 ≤ i ∧ i < (gl.length : Int) → rdI f i > 0 → rdB st (lk gl i).1 = false → rdB st (lk gl i).2.1 = false ∧ r (lk gl i).2.1 < r (lk gl i).1
def ClosedSt (gl : List Lk) (f : List Int) (st : List Bool) : Prop := ∀ v, 0 ≤ v ∧ v < (st.length : Int) → rdB st v = true → onA gl f st v ≥ 0
def cntT (st : List Bool) : Nat := st.countP fun b => b

theorem rdB_get {st : List Bool} {v : Int} (h : 0 ≤ v ∧ v < (st.length : Int)) : st[v.toNat]? = some (rdB st v) := by
  have hi : v.toNat < st.length := by omega
  have := rd_some (t := .bool) (List.getElem?_eq_getElem hi)
  rw [show ((v.toNat : Nat) : Int) = v by omega] at this
  rw [List.getElem?_eq_getElem hi]
  exact congrArg some this.symm
theorem rdB_set {st : List Bool} {u v : Int} {b : Bool} (hu : 0 ≤ u ∧ u < (st.length : Int)) (hv : 0 ≤ v ∧ v < (st.length : Int)) : rdB (st.set u.toNat b) v = bif u == v then b else rdB st v := by
  have h := rdB_get (st := st.set u.toNat b) (v := v) (by rw [List.length_set]; exact hv)
  rw [List.getElem?_set] at h
  by_cases he : u = v
  · subst he
    rw [if_pos rfl, if_pos (by omega)] at h
    rw [show (u == u) = true by simp, cT]
    exact (Option.some.inj h).symm
  · rw [if_neg (by omega), rdB_get hv] at h
    rw [show (u == v) = false by simpa using he, cF]
    exact (Option.some.inj h).symm

theorem coreStep_cases {gl : List Lk} {f : List Int} {st : List Bool} {v : Int} (hv : 0 ≤ v ∧ v < (st.length : Int)) :
    (coreStep gl f st v = st ∧ (rdB st v = true → onA gl f st v ≥ 0)) ∨ (rdB st v = true ∧ ¬ onA gl f st v ≥ 0 ∧ coreStep gl f st v = st.set v.toNat false) := by
  have h := rdB_get hv
  unfold coreStep
  cases hb : rdB st v with
  | false =>
    left
    rw [hb] at h
    refine ⟨?_, fun h => by cases h⟩
    rw [Bool.false_and]
    exact List.ext_getElem? fun i => by
      rw [List.getElem?_set]
      by_cases hi : v.toNat = i
      · subst hi
        rw [if_pos rfl, if_pos (by omega), h]
      · rw [if_neg hi]
  | true =>
    rw [hb] at h
    by_cases ho : onA gl f st v ≥ 0
    · left
      refine ⟨?_, fun _ => ho⟩
      rw [decide_eq_true ho, Bool.true_and]
      exact List.ext_getElem? fun i => by
        rw [List.getElem?_set]
        by_cases hi : v.toNat = i
        · subst hi
          rw [if_pos rfl, if_pos (by omega), h]
        · rw [if_neg hi]
    · right
      exact ⟨rfl, ho, by rw [decide_eq_false ho, Bool.true_and]⟩

theorem cntT_set : ∀ {st : List Bool} {i : Nat}, st[i]? = some true → cntT (st.set i false) + 1 = cntT st
  | b :: st, 0, h => by
    simp only [List.getElem?_cons_zero, Option.some.injEq] at h
    subst h
    simp [cntT]
  | b :: st, i + 1, h => by
    have := cntT_set (st := st) (i := i) (by simpa using h)
    unfold cntT at this ⊢
    rw [List.set_cons_succ, List.countP_cons, List.countP_cons]
    omega
  | [], _, h => by simp at h

theorem coreStep_rk {gl : List Lk} {f : List Int} {st : List Bool} {v : Int} (hg : ∀ i, 0 ≤ i ∧ i < (gl.length : Int) → (0 ≤ (lk gl i).1 ∧ (lk gl i).1 < (st.length : Int)) ∧ (0 ≤ (lk gl i).2.1 ∧ (lk gl i).2.1 < (st.length : Int)) ∧ (lk gl i).1 ≠ (lk gl i).2.1)
    (hv : 0 ≤ v ∧ v < (st.length : Int)) {r : Int → Nat} {N : Nat} (h : StRk gl f st r N) : ∃ r' N', StRk gl f (coreStep gl f st v) r' N' := by
  rcases coreStep_cases (gl := gl) (f := f) hv with ⟨e, _⟩ | ⟨h1, h2, e⟩
  · rw [e]; exact ⟨r, N, h⟩
  · rw [e]
    refine ⟨fun u => if u = v then N else r u, N + 1, fun u hu hb => ?_, fun i hi hp hb => ?_⟩
    · rw [List.length_set] at hu
      rw [rdB_set hv hu] at hb
      by_cases hc : u = v
      · dsimp only; rw [if_pos hc]; omega
      · rw [show (v == u) = false by simpa using Ne.symm hc, cF] at hb
        have := h.1 u hu hb
        dsimp only; rw [if_neg hc]; omega
    · obtain ⟨g1, g2, g3⟩ := hg i hi
      rw [rdB_set hv g1] at hb
      rw [rdB_set hv g2]
      have hs := (searchI_cases gl.length (onB gl f st v)).resolve_right fun hx => h2 hx.1.1
      by_cases hc : (lk gl i).1 = v
      · have hx := hs.2 i hi
        unfold onB at hx
        rw [hc, decide_eq_true hp, show (v == v) = true by simp, Bool.true_and, Bool.and_true] at hx
        have hne : ¬ (lk gl i).2.1 = v := fun e => g3 (hc.trans e.symm)
        rw [show (v == (lk gl i).2.1) = false by simpa using Ne.symm hne, cF]
        refine ⟨hx, ?_⟩
        dsimp only
        rw [if_neg hne, if_pos hc]
        exact h.1 _ g2 hx
      · rw [show (v == (lk gl i).1) = false by simpa using Ne.symm hc, cF] at hb
        obtain ⟨k1, k2⟩ := h.2 i hi hp hb
        have hne : ¬ (lk gl i).2.1 = v := fun e => by rw [e, h1] at k1; cases k1
        rw [show (v == (lk gl i).2.1) = false by simpa using Ne.symm hne, cF]
        refine ⟨k1, ?_⟩
        dsimp only
        rw [if_neg hne, if_neg hc]
        exact k2

theorem coreFold_rk {gl : List Lk} {f : List Int} {m : Nat} (hg : ∀ i, 0 ≤ i ∧ i < (gl.length : Int) → (0 ≤ (lk gl i).1 ∧ (lk gl i).1 < (m : Int)) ∧ (0 ≤ (lk gl i).2.1 ∧ (lk gl i).2.1 < (m : Int)) ∧ (lk gl i).1 ≠ (lk gl i).2.1) : ∀ (l : List Int) (st : List Bool), st.length = m → (∀ v ∈ l, 0 ≤ v ∧ v < (m : Int)) →
    ((∃ r N, StRk gl f st r N) → ∃ r N, StRk gl f (l.foldl (coreStep gl f) st) r N) ∧ cntT (l.foldl (coreStep gl f) st) ≤ cntT st ∧ ((l.foldl (coreStep gl f) st = st ∧ ∀ v ∈ l, rdB st v = true → onA gl f st v ≥ 0) ∨ cntT (l.foldl (coreStep gl f) st) < cntT st)
  | [], st, hs, hl => ⟨fun h => h, Nat.le_refl _, .inl ⟨rfl, by simp⟩⟩
  | v :: l, st, hs, hl => by
    have hv := hl v (by simp)
    have hv' : 0 ≤ v ∧ v < (st.length : Int) := by omega
    obtain ⟨i1, i2, i3⟩ := coreFold_rk hg l (coreStep gl f st v) (by rw [coreStep_len, hs]) fun u hu => hl u (by simp [hu])
    rw [List.foldl_cons]
    refine ⟨fun ⟨r, N, h⟩ => i1 (coreStep_rk (by rw [hs]; exact hg) hv' h), ?_⟩
    rcases coreStep_cases (gl := gl) (f := f) hv' with ⟨e, h1⟩ | ⟨h1, h2, e⟩
    · rw [e] at i2 i3 ⊢
      refine ⟨i2, ?_⟩
      rcases i3 with ⟨j1, j2⟩ | j
      · refine .inl ⟨j1, fun u hu => ?_⟩
        rcases List.mem_cons.1 hu with rfl | hu
        · exact h1
        · exact j2 u hu
      · exact .inr j
    · have hc := cntT_set (st := st) (i := v.toNat) (by rw [rdB_get hv', h1])
      rw [← e] at hc
      exact ⟨by omega, .inr (by omega)⟩

theorem coreN_fix {gl : List Lk} {f : List Int} {m : Nat} {st : List Bool} (h : coreRound gl f m st = st) : ∀ n, coreN gl f m n st = st
  | 0 => rfl
  | n + 1 => by
    simp only [coreN]
    rw [h]
    exact coreN_fix h n

theorem coreN_ok {gl : List Lk} {f : List Int} {m : Nat} (hg : ∀ i, 0 ≤ i ∧ i < (gl.length : Int) → (0 ≤ (lk gl i).1 ∧ (lk gl i).1 < (m : Int)) ∧ (0 ≤ (lk gl i).2.1 ∧ (lk gl i).2.1 < (m : Int)) ∧ (lk gl i).1 ≠ (lk gl i).2.1) : ∀ (n : Nat) (st : List Bool), st.length = m → (∃ r N, StRk gl f st r N) →
    (coreN gl f m n st).length = m ∧ (∃ r N, StRk gl f (coreN gl f m n st) r N) ∧ (ClosedSt gl f (coreN gl f m n st) ∨ cntT (coreN gl f m n st) + n ≤ cntT st)
  | 0, st, hs, h => ⟨hs, h, .inr (Nat.le_refl _)⟩
  | n + 1, st, hs, h => by
    obtain ⟨i1, i2, i3⟩ := coreFold_rk (f := f) hg (upto m) st hs fun v hv => upto_mem.1 hv
    obtain ⟨j1, j2, j3⟩ := coreN_ok hg n (coreRound gl f m st) (by rw [coreRound_len, hs]) (i1 h)
    simp only [coreN]
    refine ⟨j1, j2, ?_⟩
    rcases i3 with ⟨k1, k2⟩ | k
    · left
      have e : coreRound gl f m st = st := k1
      rw [e, coreN_fix e]
      exact fun v hv hb => k2 v (upto_mem.2 (by omega)) hb
    · rcases j3 with j3 | j3
      · exact .inl j3
      · right
        have : cntT (coreRound gl f m st) < cntT st := k
        omega

theorem rdB_cnt {st : List Bool} {v : Int} (hv : 0 ≤ v ∧ v < (st.length : Int)) (h : rdB st v = true) : 0 < cntT st := by
  have := rdB_get hv
  rw [h] at this
  exact List.countP_pos_iff.2 ⟨true, List.mem_of_getElem? this, rfl⟩

/-- What the core is. -/
structure CoreOk (g : Gr) (f : List Int) (st : List Bool) : Prop where
  len : st.length = g.1.toNat
  rk : ∃ r N, StRk g.2 f st r N
  closed : ClosedSt g.2 f st

theorem core_ok {g : Gr} (hg : graphMay g = true) (f : List Int) : CoreOk g f (coreOf g f) := by
  have hp := graphMay_parts hg
  have hl : ∀ i, 0 ≤ i ∧ i < (g.2.length : Int) → (0 ≤ (lk g.2 i).1 ∧ (lk g.2 i).1 < ((g.1.toNat : Nat) : Int)) ∧ (0 ≤ (lk g.2 i).2.1 ∧ (lk g.2 i).2.1 < ((g.1.toNat : Nat) : Int)) ∧ (lk g.2 i).1 ≠ (lk g.2 i).2.1 := fun i hi => by
    rw [show ((g.1.toNat : Nat) : Int) = g.1 by omega]
    exact lk_at hg hi
  have at_ : ∀ v : Int, 0 ≤ v ∧ v < (g.1.toNat : Int) → rdB (List.replicate g.1.toNat true) v = true := fun v hv => by
    have := rdB_get (st := List.replicate g.1.toNat true) (v := v) (by simpa using hv)
    rw [List.getElem?_replicate, if_pos (by omega)] at this
    exact (Option.some.inj this).symm
  obtain ⟨h1, h2, h3⟩ := coreN_ok (f := f) hl g.1.toNat (List.replicate g.1.toNat true) (by simp) ⟨fun _ => 0, 0, (fun v hv hb => by
    rw [at_ v (by simpa using hv)] at hb
    cases hb), (fun i hi hp hb => by
    rw [at_ _ (hl i hi).1] at hb
    cases hb)⟩
  refine ⟨h1, h2, ?_⟩
  rcases h3 with h3 | h3
  · exact h3
  · intro v hv hb
    have h4 := rdB_cnt hv hb
    have h5 : cntT (List.replicate g.1.toNat true) ≤ g.1.toNat := by
      have := List.countP_le_length (p := fun b : Bool => b) (l := List.replicate g.1.toNat true)
      rwa [List.length_replicate] at this
    have h6 : cntT (coreOf g f) + g.1.toNat ≤ cntT (List.replicate g.1.toNat true) := h3
    omega

/-- None stands: no way back. -/
theorem CoreOk.none {g : Gr} (hg : graphMay g = true) {f : List Int} {st : List Bool} (h : CoreOk g f st) (hn : ∀ v, 0 ≤ v ∧ v < (st.length : Int) → rdB st v = false) : Acyc g.2 f := by
  obtain ⟨r, N, h1, h2⟩ := h.rk
  have hl := h.len
  have hp := graphMay_parts hg
  exact ⟨r, fun i hi hp' => (h2 i hi hp' (hn _ (by have := (lk_at hg hi).1; omega))).2⟩

/-- A row of links that comes back. -/
structure CycOk (g : Gr) (f way : List Int) : Prop where
  some : way ≠ []
  le : way.length ≤ 9
  lin : ∀ l ∈ way, (0 ≤ l ∧ l < (g.2.length : Int)) ∧ rdI f l > 0
  nodup : way.Nodup
  chain : ∃ u, ChainL g.2 u way u
end

section
set_option maxRecDepth 100000
set_option linter.unusedVariables false
noncomputable def f142.E (k : Nat) : Env := mkEnv tt [(78, S78), (111, S111), (161, S161), (162, S162), (163, S163)] [] [(142, 7, [.kill (rg [(0, 0), (3, 4), (6, 6), (9, 53)]), .tidy])] [] k
noncomputable def f142.code : Go.Code := (Go.Func.body Try.f142).getD .skip
noncomputable def f142.l0 (k n : Nat) (p0 : List Int) (p1 : Int) (p2 : List (Int × Int × Int)) (p3 : List Bool) (p4 : List Int) (p5 : List Int) : Option V :=
  atPath (f142.E k) n ⟨[.undef, (.ro (.int .i64) (p0)), (.ptr (524304 : Nat) ((0 : Nat)) ((0 : Nat))), .undef, .undef, (.slw (1310736 : Nat)), .undef, (.slw (1835024 : Nat)), (.slw (2097168 : Nat)), .undef, .undef, .undef, .undef, .undef, .undef, .undef, .undef, .undef, .undef, .undef, .undef, .undef, .undef, .undef, .undef, .undef, .undef, .undef, .undef, .undef, .undef, .undef, .undef, .undef, .undef, .undef, .undef, .undef, .undef, .undef, .undef, .undef, .undef, .undef, .undef, .undef, .undef, .undef, .undef, .undef, .undef, .undef, .undef, .undef], [], [((524304 : Nat), .box [(.int .i64 (p1)), (.ro (.pair (.int .i64) (.pair (.int .i64) (.int .i64))) (p2))]), ((1310736 : Nat), .row .bool (p3)), ((1835024 : Nat), .row (.int .i64) (p4)), ((2097168 : Nat), .row (.int .i64) (p5))]⟩ 9 0 142 [.c 1, .c 1, .c 1, .c 1, .c 1, .c 1, .c 0] [] f142.code (finK tt Try.f142)
theorem f142.l0_eq (k n : Nat) (p0 : List Int) (p1 : Int) (p2 : List (Int × Int × Int)) (p3 : List Bool) (p4 : List Int) (p5 : List Int) : f142.l0 k (n + 1) p0 p1 p2 p3 p4 p5 =
  chk (decide ((0 : Int) ≤ Go.IntKind.i64.wrap ((↑p5.length : Int) - (1 : Int)) ∧ Go.IntKind.i64.wrap ((↑p5.length : Int) - (1 : Int)) < (↑p5.length : Int))) ((chk (onForm ((p1, p2), p0, p3, rd (Ty.int Go.IntKind.i64) p5 (↑(Go.IntKind.i64.wrap ((↑p5.length : Int) - (1 : Int))).toNat : Int))) (some (onA p2 p0 p3 (rd (Ty.int Go.IntKind.i64) p5 (↑(Go.IntKind.i64.wrap ((↑p5.length : Int) - (1 : Int))).toNat : Int))))).bind (fun y0 => chk (decide ((p4 ++ [y0]).length * (8 : Nat) ≤ (140737488355328 : Nat))) (chk (decide ((0 : Int) ≤ y0 ∧ y0 < (↑p2.length : Int))) ((chk (decide (p5.length < (4611686018427387904 : Nat))) (some (searchI p5.length fun i => (rd ((Ty.int Go.IntKind.i64).pair ((Ty.int Go.IntKind.i64).pair (Ty.int Go.IntKind.i64))) p2 y0).snd.fst == rdI p5 i))).bind (fun y1 => bif decide (y1 ≥ (0 : Int)) then (chk (decide ((0 : Int) ≤ y1 ∧ y1 ≤ (↑(p4 ++ [y0]).length : Int))) (chk (decide ((↑(p4 ++ [y0]).length : Int) ≤ (↑(p4 ++ [y0]).length : Int))) ((chk (decide ((List.take ((↑(p4 ++ [y0]).length : Int).toNat - y1.toNat) (List.drop y1.toNat (p4 ++ [y0]))).length * (8 : Nat) ≤ (140737488355328 : Nat))) (some (List.take ((↑(p4 ++ [y0]).length : Int).toNat - y1.toNat) (List.drop y1.toNat (p4 ++ [y0]))))).bind (fun y2 => some (.own (.int .i64) (y2)))))) else (chk (decide ((p5 ++ [(rd ((Ty.int Go.IntKind.i64).pair ((Ty.int Go.IntKind.i64).pair (Ty.int Go.IntKind.i64))) p2 y0).snd.fst]).length * (8 : Nat) ≤ (140737488355328 : Nat))) (f142.l0 k n (p0) (p1) (p2) (p3) (p4 ++ [y0]) (p5 ++ [(rd ((Ty.int Go.IntKind.i64).pair ((Ty.int Go.IntKind.i64).pair (Ty.int Go.IntKind.i64))) p2 y0).snd.fst])))))))) := by kernel_rfl
theorem f142.eq (k : Nat) (x0 : Int × List (Int × Int × Int)) (x1 : List Int) : evFn (f142.E k) 9 142 Try.f142 [(.agg [(.int .i64 (x0.fst)), (.ro (.pair (.int .i64) (.pair (.int .i64) (.int .i64))) (x0.snd))]), (.ro (.int .i64) (x1))] =
  (chk (flowForm (x0, x1)) (some (coreOf x0 x1))).bind (fun y0 => (chk (decide (y0.length < (4611686018427387904 : Nat))) (some (searchI y0.length fun i => true == rdB y0 i))).bind (fun y1 => bif decide (y1 < (0 : Int)) then (some (.own (.int .i64) ([]))) else (f142.l0 k k (x1) (x0.fst) (x0.snd) (y0) ([]) ([y1])))) := by kernel_rfl
theorem f142.inl (k : Nat) : InlOk Try.prog (f142.E k) := inl_nil
theorem f142.sums (k : Nat) : SumsOk Try.prog (f142.E k) := (sums_cons ok78 (sums_cons ok111 (sums_cons ok161 (sums_cons ok162 (sums_cons ok163 sums_nil)))))
end

section
set_option linter.unusedVariables false
set_option maxRecDepth 100000

theorem nodup_len : ∀ (m : Nat) (l : List Int), l.Nodup → (∀ x ∈ l, 0 ≤ x ∧ x < (m : Int)) → l.length ≤ m
  | 0, [], _, _ => Nat.le_refl _
  | 0, x :: l, _, h => by have := h x (by simp); omega
  | m + 1, l, hn, h => by
    by_cases hm : (m : Int) ∈ l
    · have := nodup_len m (l.erase (m : Int)) (hn.erase _) fun x hx => by
        obtain ⟨h1, h2⟩ := (hn.mem_erase_iff).1 hx
        have := h x h2
        omega
      rw [List.length_erase_of_mem hm] at this
      omega
    · have := nodup_len m l hn fun x hx => by
        have := h x hx
        have : x ≠ (m : Int) := fun e => hm (e ▸ hx)
        omega
      omega

/-- What is walked so far. -/
structure FindSt (g : Gr) (f : List Int) (st : List Bool) (u : Int) (way : List Int) : Prop where
  ends : ∃ w, ChainL g.2 u way w
  nodup : (vertsL g.2 u way).Nodup
  stands : ∀ v ∈ vertsL g.2 u way, (0 ≤ v ∧ v < g.1) ∧ rdB st v = true
  lin : ∀ l ∈ way, (0 ≤ l ∧ l < (g.2.length : Int)) ∧ rdI f l > 0

theorem vertsL_len (gl : List Lk) (u : Int) (ws : List Int) : (vertsL gl u ws).length = ws.length + 1 := by simp [vertsL]
theorem vertsL_snoc (gl : List Lk) (u : Int) (ws : List Int) (l : Int) : vertsL gl u (ws ++ [l]) = vertsL gl u ws ++ [(lk gl l).2.1] := by simp [vertsL]

theorem f142.l0_is (k : Nat) {g : Gr} (hg : graphMay g = true) {f : List Int} (hf : f.length = g.2.length) {st : List Bool} (hst : CoreOk g f st) (u : Int) : ∀ (n : Nat) (way : List Int), FindSt g f st u way → 9 < n + way.length →
    ∃ x, f142.l0 k n f g.1 g.2 st way (vertsL g.2 u way) = some (.own tI x) ∧ CycOk g f x
  | 0, way, h, hn => by
    have hp := graphMay_parts hg
    have := nodup_len g.1.toNat _ h.nodup fun x hx => by have := (h.stands x hx).1; omega
    rw [vertsL_len] at this
    omega
  | n + 1, way, h, hn => by
    have hp := graphMay_parts hg
    have hlen := nodup_len g.1.toNat _ h.nodup fun x hx => by have := (h.stands x hx).1; omega
    obtain ⟨w, hch⟩ := h.ends
    have hlast := hch.last
    have hw := h.stands w (List.mem_of_getElem? hlast)
    have hsl := hst.len
    rw [vertsL_len] at hlen
    have hon := hst.closed w (by omega) hw.2
    obtain ⟨h1, h2⟩ := (searchI_cases g.2.length (onB g.2 f st w)).resolve_left fun hx => by
      have e : onA g.2 f st w = -1 := hx.1
      omega
    have hal : searchI g.2.length (onB g.2 f st w) = onA g.2 f st w := rfl
    rw [hal] at h1 h2
    generalize hl : onA g.2 f st w = l at h1 h2 hon
    unfold onB at h2
    simp only [Bool.and_eq_true] at h2
    obtain ⟨e1, e2, e3⟩ := h2
    have e1 := eq_of_beq e1
    have e3 : rdI f l > 0 := of_decide_eq_true e3
    have hto := (lk_at hg h1).2.1
    have w1 : Go.IntKind.i64.wrap (((vertsL g.2 u way).length : Int) - 1) = (way.length : Int) := by rw [vertsL_len, wrap64 (by omega)]; omega
    have r1 : rd (Ty.int Go.IntKind.i64) (vertsL g.2 u way) (((way.length : Int).toNat : Nat) : Int) = w := rd_some (t := tI) (by rw [Int.toNat_natCast]; exact hlast)
    have c1 : decide ((0 : Int) ≤ (way.length : Int) ∧ (way.length : Int) < ((vertsL g.2 u way).length : Int)) = true := decide_eq_true (by rw [vertsL_len]; omega)
    have c2 : onForm (((g.1, g.2), f, st, w) : Gr × (List Int × (List Bool × Int))) = true := by
      unfold onForm
      dsimp only
      rw [show graphMay (g.1, g.2) = true from hg, hf, hsl, show (((g.1.toNat : Nat) : Int) == g.1) = true by simp; omega]
      simp
    have c3 : decide ((way ++ [l]).length * 8 ≤ 140737488355328) = true := decide_eq_true (by rw [List.length_append, List.length_singleton]; omega)
    have c4 : decide ((0 : Int) ≤ l ∧ l < (g.2.length : Int)) = true := decide_eq_true h1
    have c5 : decide ((vertsL g.2 u way).length < 4611686018427387904) = true := decide_eq_true (by rw [vertsL_len]; omega)
    have hc2 : ChainL g.2 u (way ++ [l]) (lk g.2 l).2.1 := hch.snoc e1
    have hin2 : ∀ a ∈ way ++ [l], (0 ≤ a ∧ a < (g.2.length : Int)) ∧ rdI f a > 0 := fun a ha => by
      rcases List.mem_append.1 ha with ha | ha
      · exact h.lin a ha
      · obtain rfl : a = l := by simpa using ha
        exact ⟨h1, e3⟩
    rw [f142.l0_eq, w1, c1, kT, r1, c2, kT, bS, hl, c3, kT, c4, kT, c5, kT, bS]
    have e4 : ∀ i, ((rd ((Ty.int Go.IntKind.i64).pair ((Ty.int Go.IntKind.i64).pair (Ty.int Go.IntKind.i64))) g.2 l).snd.fst == rdI (vertsL g.2 u way) i) = ((lk g.2 l).2.1 == rdI (vertsL g.2 u way) i) := fun i => rfl
    simp only [e4]
    rcases searchI_cases (vertsL g.2 u way).length (fun i => (lk g.2 l).2.1 == rdI (vertsL g.2 u way) i) with ⟨s1, s2⟩ | ⟨s1, s2⟩
    · have hnew : (lk g.2 l).2.1 ∉ vertsL g.2 u way := fun hm => by
        obtain ⟨i, hi⟩ := List.mem_iff_getElem?.1 hm
        have := s2 (i : Int) (by have := idx_lt hi; omega)
        rw [rdI_some hi] at this
        simp at this
      have c6 : decide ((vertsL g.2 u way ++ [(lk g.2 l).2.1]).length * 8 ≤ 140737488355328) = true := decide_eq_true (by rw [List.length_append, vertsL_len, List.length_singleton]; omega)
      have c6' : decide ((vertsL g.2 u way ++ [(rd ((Ty.int Go.IntKind.i64).pair ((Ty.int Go.IntKind.i64).pair (Ty.int Go.IntKind.i64))) g.2 l).snd.fst]).length * 8 ≤ 140737488355328) = true := c6
      have ih := f142.l0_is k hg hf hst u n (way ++ [l]) ⟨⟨_, hc2⟩, by
        rw [vertsL_snoc]
        exact List.nodup_append.2 ⟨h.nodup, by simp, fun a ha b hb => by
          obtain rfl : b = (lk g.2 l).2.1 := by simpa using hb
          rintro rfl
          exact hnew ha⟩, fun v hv => by
        rw [vertsL_snoc] at hv
        rcases List.mem_append.1 hv with hv | hv
        · exact h.stands v hv
        · obtain rfl : v = (lk g.2 l).2.1 := by simpa using hv
          exact ⟨hto, e2⟩, hin2⟩ (by rw [List.length_append, List.length_singleton]; omega)
      rw [s1, decide_eq_false (by omega : ¬ (-1 : Int) ≥ 0), cF, c6', kT]
      rw [vertsL_snoc] at ih
      exact ih
    · generalize searchI (vertsL g.2 u way).length (fun i => (lk g.2 l).2.1 == rdI (vertsL g.2 u way) i) = j at s1 s2
      have s2 := eq_of_beq s2
      rw [vertsL_len] at s1
      have hj : (vertsL g.2 u way)[j.toNat]? = some (lk g.2 l).2.1 := by
        rw [s2]
        exact rdI_get (by rw [vertsL_len]; exact s1)
      have hlen2 : (way ++ [l]).length = way.length + 1 := by simp
      have ht : List.take ((((way ++ [l]).length : Int)).toNat - j.toNat) (List.drop j.toNat (way ++ [l])) = (way ++ [l]).drop j.toNat := by
        rw [Int.toNat_natCast]
        exact List.take_of_length_le (by rw [List.length_drop]; omega)
      have hdl : ((way ++ [l]).drop j.toNat).length = way.length + 1 - j.toNat := by rw [List.length_drop, hlen2]
      have c7 : decide ((0 : Int) ≤ j ∧ j ≤ ((way ++ [l]).length : Int)) = true := decide_eq_true (by omega)
      have c8 : decide (((way ++ [l]).length : Int) ≤ ((way ++ [l]).length : Int)) = true := decide_eq_true (by omega)
      have c9 : decide (((way ++ [l]).drop j.toNat).length * 8 ≤ 140737488355328) = true := decide_eq_true (by omega)
      rw [decide_eq_true (by omega : j ≥ 0), cT, c7, kT, c8, kT, ht, c9, kT, bS]
      refine ⟨_, rfl, ?_, by omega, fun a ha => hin2 a (List.mem_of_mem_drop ha), ?_, (lk g.2 l).2.1, ?_⟩
      · intro e
        rw [e] at hdl
        simp at hdl
        omega
      · refine (List.drop_sublist _ _).nodup ?_
        have hfr := hc2.froms
        rw [vertsL_snoc] at hfr
        have hfr2 : (way ++ [l]).map (fun l => (lk g.2 l).1) = vertsL g.2 u way := by
          have := congrArg List.dropLast hfr
          simpa using this.symm
        have hnd := h.nodup
        rw [← hfr2] at hnd
        exact (List.pairwise_map.1 hnd).imp fun hne e => hne (by rw [e])
      · exact hc2.drop (by
          rw [vertsL_snoc, List.getElem?_append_left (by rw [vertsL_len]; omega)]
          exact hj)

def findQ (d : Gr × List Int) (x : List Int) : Prop := CycOk d.1 d.2 x ∨ (x = [] ∧ Acyc d.1.2 d.2)
def findP (d : Gr × List Int) (x : List Int) : Prop := findQ d x ∧ ∃ k, evFn (f142.E k) 9 142 Try.f142 (encL [tG, tL] d) = some (.own tI x)
noncomputable def findC (d : Gr × List Int) : Option (List Int) := relC findP d

theorem findC_is {g : Gr} (hg : graphMay g = true) {f : List Int} (hf : f.length = g.2.length) : ∃ x, findC (g, f) = some x ∧ findQ (g, f) x := by
  have hst := core_ok hg f
  have hsl := hst.len
  have hp := graphMay_parts hg
  have c1 : flowForm ((g, f) : Gr × List Int) = true := by
    unfold flowForm
    dsimp only
    rw [hg, hf]
    simp
  have c2 : decide ((coreOf g f).length < 4611686018427387904) = true := decide_eq_true (by omega)
  have : ∃ x, findP (g, f) x := by
    rcases searchI_cases (coreOf g f).length (fun i => true == rdB (coreOf g f) i) with ⟨s1, s2⟩ | ⟨s1, s2⟩
    · refine ⟨[], .inr ⟨rfl, hst.none hg fun v hv => by simpa using s2 v hv⟩, 1, (f142.eq _ g f).trans ?_⟩
      rw [c1, kT, bS, c2, kT, bS, s1, decide_eq_true (by omega : (-1 : Int) < 0), cT]
    · obtain ⟨x, e1, e2⟩ := f142.l0_is 10 hg hf hst (searchI (coreOf g f).length fun i => true == rdB (coreOf g f) i) 10 [] ⟨⟨_, rfl⟩, by simp [vertsL], fun v hv => by
        have hv := List.mem_singleton.1 (show v ∈ [searchI (coreOf g f).length fun i => true == rdB (coreOf g f) i] from hv)
        rw [hv]
        exact ⟨by omega, (eq_of_beq s2).symm⟩, by simp⟩ (by simp)
      refine ⟨x, .inl e2, 10, (f142.eq _ g f).trans ?_⟩
      rw [c1, kT, bS, c2, kT, bS, decide_eq_false (by omega : ¬ searchI (coreOf g f).length (fun i => true == rdB (coreOf g f) i) < 0), cF]
      exact e1
  obtain ⟨y, e1, e2⟩ := relC_is this
  exact ⟨y, e1, e2.1⟩

noncomputable def S142 : Summ := summ [tG, tL] (List Int) findC (.own tI)
theorem ok142 : SumOk Try.prog 142 S142 :=
  sum_k hmix f142.E (fn := Try.f142) (code := f142.code) (by kernel_rfl) (by kernel_rfl) (by kernel_rfl) (fun _ => ttOk) f142.sums f142.inl fun d x hx => (relC_some (P := findP) hx).2
end

section
set_option maxRecDepth 100000
set_option linter.unusedVariables false
noncomputable def f126.E (k : Nat) : Env := mkEnv tt [(78, S78), (134, S134), (141, S141), (142, S142), (143, S143)] [] [(126, 9, [.kill (rg [(0, 1), (3, 5), (7, 7), (9, 29), (33, 44)]), .tidy]), (126, 5, [.kill (rg [(0, 1), (3, 5), (8, 44)]), .tidy])] [] k
noncomputable def f126.code : Go.Code := (Go.Func.body Try.f126).getD .skip
noncomputable def f126.l0 (k n : Nat) (p0 : Int) (p1 : List (Int × Int × Int)) (p2 : List Int) (p3 : List Int) : Option V :=
  atPath (f126.E k) n ⟨[.undef, .undef, (.ptr (524304 : Nat) ((0 : Nat)) ((0 : Nat))), .undef, .undef, .undef, (.slw (1572880 : Nat)), (.slw (1835024 : Nat)), .undef, .undef, .undef, .undef, .undef, .undef, .undef, .undef, .undef, .undef, .undef, .undef, .undef, .undef, .undef, .undef, .undef, .undef, .undef, .undef, .undef, .undef, .undef, .undef, .undef, .undef, .undef, .undef, .undef, .undef, .undef, .undef, .undef, .undef, .undef, .undef, .undef], [], [((524304 : Nat), .box [(.int .i64 (p0)), (.ro (.pair (.int .i64) (.pair (.int .i64) (.int .i64))) (p1))]), ((1572880 : Nat), .row (.int .i64) (p2)), ((1835024 : Nat), .row (.int .i64) (p3))]⟩ 9 0 126 [.c 1, .c 1, .c 1, .c 0, .c 1, .c 0] [] f126.code (finK tt Try.f126)
noncomputable def f126.l1 (k n m0 : Nat) (p0 : Int) (p1 : Int) (p2 : Int) (p3 : Int) (p4 : List (Int × Int × Int)) (p5 : List Int) (p6 : List Int) : Option V :=
  atPath (f126.E k) n ⟨[.undef, .undef, (.ptr (524304 : Nat) ((0 : Nat)) ((0 : Nat))), .undef, .undef, .undef, (.slw (1572880 : Nat)), .undef, (.int .i64 (p0)), .undef, .undef, .undef, .undef, .undef, .undef, .undef, .undef, .undef, .undef, .undef, .undef, .undef, .undef, .undef, .undef, .undef, .undef, .undef, .undef, .undef, (.slw (7864336 : Nat)), (.int .i64 (p1)), (.int .i64 (p2)), .undef, .undef, .undef, .undef, .undef, .undef, .undef, .undef, .undef, .undef, .undef, .undef], [], [((524304 : Nat), .box [(.int .i64 (p3)), (.ro (.pair (.int .i64) (.pair (.int .i64) (.int .i64))) (p4))]), ((1572880 : Nat), .row (.int .i64) (p5)), ((7864336 : Nat), .row (.int .i64) (p6))]⟩ 9 0 126 [.c 1, .c 1, .c 1, .c 0, .c 1, .c 0, .c 0, .c 1, .c 0, .c 0, .c 1, .c 1, .c 0] [m0] f126.code (finK tt Try.f126)
theorem f126.l0_eq (k n : Nat) (p0 : Int) (p1 : List (Int × Int × Int)) (p2 : List Int) (p3 : List Int) : f126.l0 k (n + 1) p0 p1 p2 p3 =
  bif decide ((↑p3.length : Int) > (0 : Int)) then ((chk (decide (p3.length ≤ (64 : Nat)) && inL p2.length p3) (some (List.map (rdI p2) p3))).bind (fun y0 => (chk (decide (y0.length < (4611686018427387904 : Nat))) (some (List.foldl min (4611686018427387904 : Int) y0))).bind (fun y1 => f126.l1 k k n (y1) ((↑p3.length : Int)) ((0 : Int)) (p0) (p1) (p2) (p3)))) else (some (.tup [(.own (.int .i64) (p2)), (.int .i64 ((0 : Int)))])) := by kernel_rfl
theorem f126.l1_eq (k n m0 : Nat) (p0 : Int) (p1 : Int) (p2 : Int) (p3 : Int) (p4 : List (Int × Int × Int)) (p5 : List Int) (p6 : List Int) : f126.l1 k (n + 1) m0 p0 p1 p2 p3 p4 p5 p6 =
  bif decide (p2 < p1) then (chk (decide ((0 : Int) ≤ p2 ∧ p2 < (↑p6.length : Int))) (chk (decide ((0 : Int) ≤ rd (Ty.int Go.IntKind.i64) p6 (↑p2.toNat : Int) ∧ rd (Ty.int Go.IntKind.i64) p6 (↑p2.toNat : Int) < (↑p5.length : Int))) (chk (decide ((0 : Int) ≤ rd (Ty.int Go.IntKind.i64) p6 (↑p2.toNat : Int) ∧ rd (Ty.int Go.IntKind.i64) p6 (↑p2.toNat : Int) < (↑p5.length : Int))) (f126.l1 k n m0 (p0) (p1) (Go.IntKind.i64.wrap (p2 + (1 : Int))) (p3) (p4) (p5.set (Int.toNat (rd (Ty.int Go.IntKind.i64) p6 (↑p2.toNat : Int))) (Go.IntKind.i64.wrap (rd (Ty.int Go.IntKind.i64) p5 (↑(Int.toNat (rd (Ty.int Go.IntKind.i64) p6 (↑p2.toNat : Int))) : Int) - p0))) (p6))))) else ((findC (((p3, p4), p5))).bind (fun y0 => f126.l0 k m0 (p3) (p4) (p5) (y0))) := by kernel_rfl
theorem f126.eq (k : Nat) (x0 : Int × List (Int × Int × Int)) (x1 : List Int) : evFn (f126.E k) 9 126 Try.f126 [(.agg [(.int .i64 (x0.fst)), (.ro (.pair (.int .i64) (.pair (.int .i64) (.int .i64))) (x0.snd))]), (.ro (.int .i64) (x1))] =
  (chk (graphMay x0) (some (capsMay x0 x1))).bind (fun y0 => bif !y0 then (some (.tup [(.own (.int .i64) ([])), (.int .i64 ((1400 : Int)))])) else ((chk (decide (x1.length * (8 : Nat) ≤ (140737488355328 : Nat))) (some (x1))).bind (fun y1 => (findC ((x0, y1))).bind (fun y2 => f126.l0 k k (x0.fst) (x0.snd) (y1) (y2))))) := by kernel_rfl
theorem f126.inl (k : Nat) : InlOk Try.prog (f126.E k) := inl_nil
theorem f126.sums (k : Nat) : SumsOk Try.prog (f126.E k) := (sums_cons ok78 (sums_cons ok134 (sums_cons ok141 (sums_cons ok142 (sums_cons ok143 sums_nil)))))
end

section
set_option linter.unusedVariables false
set_option maxRecDepth 100000

structure CancelOk (g : Gr) (f o : List Int) : Prop where
  within : withinF o f = true
  gain : ∀ v, gainV g.2 o v = gainV g.2 f v
  acyc : Acyc g.2 o

/-- What is taken off along a row of links. -/
structure SubOk (g : Gr) (f : List Int) (b : Int) (ws : List Int) : Prop where
  pos : 1 ≤ b
  le : ∀ l ∈ ws, (0 ≤ l ∧ l < (g.2.length : Int)) ∧ b ≤ rdI f l
  hit : ∃ l ∈ ws, rdI f l = b
  nodup : ws.Nodup

theorem SubOk.of {g : Gr} {f ws : List Int} (hc : capsMay g f = true) (hw : ∀ l ∈ ws, (0 ≤ l ∧ l < (g.2.length : Int)) ∧ rdI f l > 0) (hn : ws.Nodup) (hs : ws ≠ []) {b : Int} (hb : (ws.map (rdI f)).foldl min maxRate = b) : SubOk g f b ws ∧ b ≤ maxRate := by
  have hcl := capsMay_len hc
  have hle : ∀ l ∈ ws, rdI f l ≤ maxRate := fun l hl => (caps_le hc (List.mem_of_getElem? (rdI_get (by have := (hw l hl).1; omega)))).2
  obtain ⟨y1, y2⟩ := foldl_min_le (ws.map (rdI f)) maxRate
  have y3 : 1 ≤ (ws.map (rdI f)).foldl min maxRate := foldl_min_ge _ _ (by decide) fun y hy => by
    obtain ⟨l, hl, rfl⟩ := List.mem_map.1 hy
    have := (hw l hl).2
    omega
  rw [hb] at y1 y2 y3
  refine ⟨⟨y3, fun l hl => ⟨(hw l hl).1, y2 _ (List.mem_map_of_mem hl)⟩, ?_, hn⟩, y1⟩
  rcases foldl_min_mem (ws.map (rdI f)) maxRate with h | h
  · cases ws with
    | nil => exact absurd rfl hs
    | cons a ws =>
      refine ⟨a, by simp, ?_⟩
      have h1 := y2 (rdI f a) (by simp)
      have h2 := hle a (by simp)
      rw [hb] at h
      omega
  · rw [hb] at h
    obtain ⟨l, hl, e⟩ := List.mem_map.1 h
    exact ⟨l, hl, e⟩

theorem SubOk.sub {g : Gr} {f : List Int} {b : Int} {ws : List Int} (h : SubOk g f b ws) (hf : ∀ i : Int, 0 ≤ i ∧ i < (g.2.length : Int) → 0 ≤ rdI f i) (hl : f.length = g.2.length) :
    withinF (subL b f ws) f = true ∧ cntP (subL b f ws) < cntP f ∧ ∀ i : Int, 0 ≤ i ∧ i < (g.2.length : Int) → rdI (subL b f ws) i = rdI f i - bif decide (i ∈ ws) then b else 0 := by
  have hp := h.pos
  have at_ : ∀ i : Int, 0 ≤ i ∧ i < (g.2.length : Int) → rdI (subL b f ws) i = rdI f i - bif decide (i ∈ ws) then b else 0 := fun i hi => sub_at (fun l hl' => by rw [hl]; exact (h.le l hl').1) h.nodup (by omega)
  have hb : ∀ i : Int, 0 ≤ i ∧ i < (g.2.length : Int) → 0 ≤ rdI (subL b f ws) i ∧ rdI (subL b f ws) i ≤ rdI f i := fun i hi => by
    rw [at_ i hi]
    have h0 := hf i hi
    by_cases hm : i ∈ ws
    · have := (h.le i hm).2
      rw [decide_eq_true hm, cT]
      omega
    · rw [decide_eq_false hm, cF]
      omega
  refine ⟨withinF_by (subL_len _ _ _) fun i hi => hb i (by omega), ?_, at_⟩
  obtain ⟨l, hl1, hl2⟩ := h.hit
  have hlr := (h.le l hl1).1
  have hsl := subL_len b ws f
  refine (cntP_le hsl fun i x y hx hy hyp => ?_).2 l.toNat (rdI f l) (rdI (subL b f ws) l) (rdI_get (by omega)) (rdI_get (by omega)) (by omega) ?_
  · have hi := idx_lt hx
    have := (hb (i : Int) (by omega)).2
    rw [rdI_some hx, rdI_some hy] at this
    omega
  · rw [at_ l hlr, decide_eq_true hl1, cT]
    omega

theorem subL_snoc (b : Int) (f ws : List Int) (l : Int) : subL b f (ws ++ [l]) = (subL b f ws).set l.toNat (rdI (subL b f ws) l - b) := by simp [subL]

/-- One step of what is taken off. -/
theorem SubOk.step {g : Gr} {f : List Int} {b : Int} {ws : List Int} (h : SubOk g f b ws) (hc : capsMay g f = true) {i : Nat} {l : Int} (hx : ws[i]? = some l) : rdI (subL b f (ws.take i)) l = rdI f l ∧ Go.IntKind.i64.wrap (rdI (subL b f (ws.take i)) l - b) = rdI (subL b f (ws.take i)) l - b ∧ (0 ≤ l ∧ l < (f.length : Int)) := by
  have hcl := capsMay_len hc
  have hM : maxRate = 4611686018427387904 := rfl
  have hm := List.mem_of_getElem? hx
  obtain ⟨h1, h2⟩ := h.le l hm
  have hni : l ∉ ws.take i := fun hin => by
    obtain ⟨j, hj⟩ := List.mem_iff_getElem?.1 hin
    have hji := idx_lt hj
    rw [List.length_take] at hji
    rw [List.getElem?_take_of_lt (by omega)] at hj
    exact nodup_hit (by omega : j < i) hj hx h.nodup
  have e : rdI (subL b f (ws.take i)) l = rdI f l := by
    rw [sub_at (fun a ha => by have := (h.le a (List.mem_of_mem_take ha)).1; omega) ((List.take_sublist _ _).nodup h.nodup) (by omega), decide_eq_false hni, cF]
    omega
  have := (caps_le hc (List.mem_of_getElem? (rdI_get (f := f) (i := l) (by omega)))).2
  have hp := h.pos
  exact ⟨e, wrap64 (by omega), by omega⟩

theorem f126.l1_is (k m0 : Nat) {g : Gr} {f : List Int} (hc : capsMay g f = true) {b : Int} {ws : List Int} (h : SubOk g f b ws) (hl : ws.length ≤ 64) : ∀ (n i : Nat), i ≤ ws.length → ws.length < n + i →
    f126.l1 k n m0 b (ws.length : Int) (i : Int) g.1 g.2 (subL b f (ws.take i)) ws = (findC (((g.1, g.2), subL b f ws) : Gr × List Int)).bind fun y0 => f126.l0 k m0 g.1 g.2 (subL b f ws) y0
  | 0, i, h1, h2 => by omega
  | n + 1, i, h1, h2 => by
    rw [f126.l1_eq]
    by_cases hlt : i < ws.length
    · have hx := List.getElem?_eq_getElem hlt
      obtain ⟨s1, s2, s3⟩ := h.step hc hx
      have e1 : rd (Ty.int Go.IntKind.i64) ws (((i : Int).toNat : Nat) : Int) = ws[i] := rd_some (t := tI) (by rw [Int.toNat_natCast]; exact hx)
      have e2 : rd (Ty.int Go.IntKind.i64) (subL b f (ws.take i)) ((ws[i].toNat : Nat) : Int) = rdI (subL b f (ws.take i)) ws[i] := rdI_nat _ _
      have c2 : decide ((0 : Int) ≤ ws[i] ∧ ws[i] < ((subL b f (ws.take i)).length : Int)) = true := decide_eq_true (by rw [subL_len]; exact s3)
      have et : ws.take (i + 1) = ws.take i ++ [ws[i]] := by rw [List.take_add_one, hx]; rfl
      rw [e1, e2, s2, c2, decide_eq_true (by omega : (i : Int) < (ws.length : Int)), cT, decide_eq_true (by omega : (0 : Int) ≤ (i : Int) ∧ (i : Int) < (ws.length : Int)), kT, kT, kT, wrap_succ (by omega), ← f126.l1_is k m0 hc h hl n (i + 1) (by omega) (by omega), et, subL_snoc]
    · obtain rfl : i = ws.length := by omega
      rw [decide_eq_false (by omega : ¬ (ws.length : Int) < (ws.length : Int)), cF, List.take_length]

theorem f126.l0_is (k : Nat) (hk : 10 ≤ k) {g : Gr} {f0 : List Int} (hc0 : capsMay g f0 = true) : ∀ (n : Nat) (o ws : List Int), cntP o < n → withinF o f0 = true → (∀ v, gainV g.2 o v = gainV g.2 f0 v) → findQ (g, o) ws →
    ∃ x, f126.l0 k n g.1 g.2 o ws = some (resLE (x, 0)) ∧ CancelOk g f0 x
  | 0, o, ws, h, _, _, _ => by omega
  | n + 1, o, ws, h, hw, hg, hf => by
    have hgr := caps_graph hc0
    have hc : capsMay g o = true := lies_caps (cs := f0) (by unfold liesB; rw [hc0, hw]; rfl)
    have hcl := capsMay_len hc
    have hp := graphMay_parts hgr
    rw [f126.l0_eq]
    rcases hf with hf | ⟨rfl, ha⟩
    · have hf : CycOk g o ws := hf
      have hs := hf.some
      have hlen := List.length_pos_iff.2 hs
      have hle := hf.le
      obtain ⟨s1, s2⟩ := SubOk.of hc hf.lin hf.nodup hs rfl
      have c1 : (decide (ws.length ≤ 64) && inL o.length ws) = true := by
        rw [decide_eq_true (by omega : ws.length ≤ 64), Bool.true_and]
        exact List.all_eq_true.2 fun l hl => decide_eq_true (by have := (hf.lin l hl).1; omega)
      have c2 : decide ((ws.map (rdI o)).length < 4611686018427387904) = true := decide_eq_true (by rw [List.length_map]; omega)
      have hb : List.foldl min (4611686018427387904 : Int) (ws.map (rdI o)) = (ws.map (rdI o)).foldl min maxRate := rfl
      rw [decide_eq_true (by omega : (ws.length : Int) > 0), cT, c1, kT, bS, c2, kT, bS, hb]
      generalize (ws.map (rdI o)).foldl min maxRate = b at s1 s2
      have e1 := f126.l1_is k n hc s1 (by omega) k 0 (by omega) (by omega)
      rw [show ((0 : Nat) : Int) = 0 by rfl, show subL b o (ws.take 0) = o by rfl] at e1
      rw [e1]
      obtain ⟨t1, t2, t3⟩ := s1.sub (fun i hi => (within_at hw (by have := withinF_len hw; omega)).1) hcl
      obtain ⟨y, y1, y2⟩ := findC_is hgr (f := subL b o ws) (by rw [subL_len]; exact hcl)
      rw [show findC (((g.1, g.2), subL b o ws) : Gr × List Int) = some y from y1, bS]
      obtain ⟨u, hu⟩ := hf.chain
      have hwl := withinF_len hw
      have htl := withinF_len t1
      refine f126.l0_is k hk hc0 n (subL b o ws) y (by omega) (withinF_by (by omega) fun i hi => ?_) (fun v => ?_) y2
      · have a1 := within_at t1 (i := i) (by omega)
        have a2 := within_at hw (i := i) hi
        omega
      · rw [gain_sub hcl (fun l hl => (hf.lin l hl).1) hu, hg v]
        omega
    · rw [decide_eq_false (by simp : ¬ ((([] : List Int).length : Int) > 0)), cF]
      exact ⟨o, rfl, hw, hg, ha⟩

def cancelQ (d : Gr × List Int) (x : List Int × Int) : Prop := bif capsMay d.1 d.2 then x.2 = 0 ∧ CancelOk d.1 d.2 x.1 else x = ([], 1400)
def cancelP (d : Gr × List Int) (x : List Int × Int) : Prop := cancelQ d x ∧ ∃ k, evFn (f126.E k) 9 126 Try.f126 (encL [tG, tL] d) = some (resLE x)
noncomputable def cancelC (d : Gr × List Int) : Option (List Int × Int) := relC cancelP d

theorem withinF_self {f : List Int} (h : ∀ x ∈ f, 0 ≤ x) : withinF f f = true := withinF_of rfl fun i x c hx hc => by
  rw [hx] at hc
  obtain rfl := Option.some.inj hc
  exact ⟨h x (List.mem_of_getElem? hx), Int.le_refl _⟩

theorem cancelC_is {g : Gr} (hg : graphMay g = true) (f : List Int) : ∃ x, cancelC (g, f) = some x ∧ cancelQ (g, f) x := by
  have hp := graphMay_parts hg
  have : ∃ x, cancelP (g, f) x := by
    cases hc : capsMay g f with
    | true =>
      have hcl := capsMay_len hc
      obtain ⟨y, y1, y2⟩ := findC_is hg (f := f) hcl
      obtain ⟨x, e1, e2⟩ := f126.l0_is (cntP f + 11) (by omega) hc (cntP f + 11) f y (by omega) (withinF_self (caps_sum hc).2) (fun v => rfl) y2
      refine ⟨(x, 0), ?_, cntP f + 11, (f126.eq _ g f).trans ?_⟩
      · unfold cancelQ
        dsimp only
        rw [hc, cT]
        exact ⟨rfl, e2⟩
      · rw [hg, kT, bS, hc, Bool.not_true, cF, decide_eq_true (by omega : f.length * 8 ≤ 140737488355328), kT, bS, y1, bS]
        exact e1
    | false =>
      refine ⟨([], 1400), ?_, 1, (f126.eq _ g f).trans ?_⟩
      · unfold cancelQ
        dsimp only
        rw [hc, cF]
      · rw [hg, kT, bS, hc, Bool.not_false, cT]
  obtain ⟨y, e1, e2⟩ := relC_is this
  exact ⟨y, e1, e2.1⟩

noncomputable def S126 : Summ := summ [tG, tL] (List Int × Int) cancelC resLE
theorem ok126 : SumOk Try.prog 126 S126 :=
  sum_k hmix f126.E (fn := Try.f126) (code := f126.code) (by kernel_rfl) (by kernel_rfl) (by kernel_rfl) (fun _ => ttOk) f126.sums f126.inl fun d x hx => (relC_some (P := cancelP) hx).2
end

end Go.Proofs.Ytiboikgoaihccaa.R
