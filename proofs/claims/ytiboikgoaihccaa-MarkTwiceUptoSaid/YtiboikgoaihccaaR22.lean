/-
Calls by what is known of a function; what a function as a whole hands back.
-/
import Derived.Test.YtiboikgoaihccaaR21
namespace Go.Proofs.Ytiboikgoaihccaa.R
open Go.RowKit
set_option linter.unusedVariables false

/-- It is there and can be entered. -/
def Enters (P : Program) (g : FuncId) : Prop := ∃ fn c, P.funcs[g]? = some fn ∧ (fn.name == "runtime.NumGoroutine") = false ∧ fn.body = some c

theorem run_enter {P : Program} {g : FuncId} (h : Enters P g) (xs : Array Value) (w : World) : (callFunc g xs).run P w = .ok (.enter g xs) w := by
  obtain ⟨fn, c, hf, hn, hb⟩ := h
  have h1 : fn.name ≠ "runtime.NumGoroutine" := by simpa using hn
  simp [callFunc, hf, h1, hb]

/-- What is known of a function is so. -/
def SumOk (P : Program) (g : FuncId) (s : Summ) : Prop :=
  Enters P g ∧ ∀ (B : Nat → Prop) (w : World) (vs : List V) (xs : Array Value) (x : s.rt), (∀ b, B b → b < w.heap.size) → All2 (V3 (cxP B w)) vs xs.toList → s.call vs = some x →
    Calls P g xs w fun e w' => ∃ y, e = .returned y ∧ Ret B w w' (s.res x) y

section
variable {P : Program} {E : Env} {C : Frm} {β : Nat → Option Loc} {σ : St} {as : List (Array Value)} {w w' : World} {R : Type} {r : R}

theorem Sim.pureFV (h : Sim C β σ as w) (cs : List V) {v : V} {x : Value} (hm : ∀ u ∈ v.cells, u ∈ cs) (hv : V3 (cx C β σ w) v x) : V3 (cxP (Free C (σ.frzAll cs).mem β w) w) (Go.Proofs.Ytiboikgoaihccaa.R.pureV σ v) x := by
  rcases V3.cases hv with ⟨vs, rfl, _⟩ | ⟨_, h2⟩
  · exact trivial
  rcases V2.cases h2 with ⟨us, rfl, ys, rfl, h3⟩ | ⟨h4, h3⟩
  · exact ⟨ys, rfl, h.pureFs cs us hm h3⟩
  · have e1 : Go.Proofs.Ytiboikgoaihccaa.R.pureV σ v = Go.Proofs.Ytiboikgoaihccaa.R.pure1 σ v := by cases v <;> first | rfl | simp [V.isAgg] at h4
    have e2 : v.cells = [v] := by cases v <;> first | rfl | simp [V.isAgg] at h4
    rw [e1]
    exact V3.of1 (h.pureF cs (hm v (by rw [e2]; simp)) h3)

theorem argCells_mem : ∀ {vs : List V} {v u : V}, v ∈ vs → u ∈ v.cells → u ∈ argCells vs
  | x :: vs, v, u, hv, hu => by
    simp only [argCells, List.mem_append]
    rcases List.mem_cons.1 hv with rfl | hv
    · exact .inl hu
    · exact .inr (argCells_mem hv hu)

theorem All2.map_mem {α β γ : Type} {R : α → β → Prop} {Q : γ → β → Prop} {f : α → γ} : ∀ {as : List α} {bs : List β}, (∀ a ∈ as, ∀ b, R a b → Q (f a) b) → All2 R as bs → All2 Q (as.map f) bs
  | [], bs, _, h => by cases bs <;> simp_all [All2]
  | a :: as, bs, hR, h => by
    cases bs with
    | nil => exact h.elim
    | cons b bs => exact ⟨hR a (by simp) b h.1, All2.map_mem (fun c hc => hR c (by simp [hc])) h.2⟩

theorem callS_sound {g : FuncId} {s : Summ} (hs : SumOk P g s) {nm : Nat} {vs : List V} {xs : Array Value} {K : V → St → Option R} (h : Sim C β σ as w) (hv : All2 (V3 (cx C β σ w)) vs xs.toList) (he : callS s nm vs σ K = some r) :
    (callFunc g xs).run P w = .ok (.enter g xs) w ∧ Calls P g xs w fun e w' => ∃ x, e = .returned x ∧ ∃ β' σ' v, Sim C β' σ' as w' ∧ V3 (cx C β' σ' w') v x ∧ K v σ' = some r := by
  refine ⟨run_enter hs.1 xs w, ?_⟩
  unfold callS at he
  cases hx : s.call (vs.map (Go.Proofs.Ytiboikgoaihccaa.R.pureV σ)) with
  | none => rw [hx] at he; cases he
  | some x =>
    rw [hx] at he
    simp only [Option.bind_some] at he
    have hF := h.frzAll (argCells vs)
    have hargs : All2 (V3 (cxP (Free C (σ.frzAll (argCells vs)).mem β w) w)) (vs.map (Go.Proofs.Ytiboikgoaihccaa.R.pureV σ)) xs.toList :=
      All2.map_mem (fun v hvm y hy => h.pureFV (argCells vs) (fun u hu => argCells_mem hvm hu) hy) hv
    refine (hs.2 _ w _ xs x (fun b hb => hb.1) hargs hx).mono fun e w' ⟨y, hy, hr⟩ => ⟨y, hy, ?_⟩
    cases hfl : flatV (s.res x) with
    | true =>
      rw [hfl] at he
      obtain ⟨β', h1, h2⟩ := adopt_sound h (hr.flatten (B' := fun _ => False) hfl) (fun _ hh => hh.elim) nm
      exact ⟨β', _, _, h1, h2, he⟩
    | false =>
      rw [hfl] at he
      obtain ⟨β', h1, h2⟩ := adopt_sound hF hr (fun _ hh => hh) nm
      exact ⟨β', _, _, h1, h2, he⟩

/-! ### The callee's end -/
/-- The rows that are told, and whence. -/
theorem own_srcs (h : ∀ (e : Nat) (t : Ty) (l : List t.den), look σ.mem e = some (.row t l) → True) : ∀ (cs rs : List V) {ys : List Value}, All2 (V1 (cx C β σ w)) cs ys → allS (own1 σ.mem) cs = some rs →
    All2 (fun (p : Nat × Nat) (E : Entry) => ∃ (t : Ty) (l0 : List t.den) (n : Nat), look σ.mem p.1 = some (.row t l0) ∧ p.2 + n ≤ l0.length ∧ E = .row t ((l0.drop p.2).take n)) (srcs cs) (owns rs)
  | [], rs, ys, _, he => by simp only [allS, Option.some.injEq] at he; subst he; exact trivial
  | c :: cs, rs, ys, ha, he => by
    cases ys with
    | nil => exact ha.elim
    | cons y ys =>
      simp only [allS] at he
      cases h1 : own1 σ.mem c with
      | none => rw [h1] at he; cases he
      | some x =>
        rw [h1] at he
        cases h2 : allS (own1 σ.mem) cs with
        | none => rw [h2] at he; cases he
        | some xs =>
          rw [h2] at he
          simp only [Option.some.injEq] at he
          subst he
          have ih := own_srcs h cs xs ha.2 h2
          cases c <;> simp only [own1, reduceCtorEq, Option.some.injEq] at h1
          case int => subst h1; exact ih
          case bool => subst h1; exact ih
          case str => subst h1; exact ih
          case ro => subst h1; exact ih
          case slw e =>
            obtain ⟨t, l, hl, hs⟩ := ha.1
            have hl : look σ.mem e = _ := hl
            rw [hl] at h1
            simp only [Option.some.injEq] at h1
            subst h1
            exact ⟨⟨t, l, l.length, hl, by simp, by simp⟩, ih⟩
          case sl e o n =>
            obtain ⟨t, l, hl, ho, hs, _⟩ := ha.1
            have hl : look σ.mem e = _ := hl
            rw [hl] at h1
            simp only [Option.some.injEq] at h1
            subst h1
            exact ⟨⟨t, l, n, hl, ho, rfl⟩, ih⟩

/-- Where it lies. -/
def shiftL (m : List (Nat × Entry)) (β : Nat → Option Loc) (p : Nat × Nat) : Option Loc :=
  match look m p.1 with
  | some (.row t _) => (β p.1).map fun L => ⟨L.g, L.base + p.2 * t.size, L.cells⟩
  | _ => none

theorem SlAt.shift {lo : Option Loc} {sz off n : Nat} {x : Value} (h : SlAt lo sz off n x) : SlAt (lo.map fun L => ⟨L.g, L.base + off * sz, L.cells⟩) sz 0 n x := by
  obtain ⟨A, c, hx, hc, h⟩ := h
  refine ⟨A, c, hx, hc, ?_⟩
  rcases h with h | ⟨L, hL, hA, hf⟩
  · exact .inl h
  · subst hL
    refine .inr ⟨_, rfl, by simpa using hA, ?_⟩
    rw [Nat.add_mul] at hf
    show L.base + off * sz + (0 + c) * sz ≤ L.cells
    rw [Nat.zero_add]
    omega

/-- A cell, told. -/
theorem own1_val {c r : V} {y : Value} {M : List (Nat × Entry)} {b : Nat → Option Loc} {F : Nat → Prop} {k : Nat} (hF : ∀ g, Free C σ.mem β w g → F g) (hv : V1 (cx C β σ w) c y) (he : own1 σ.mem c = some r)
    (hM : ∀ p E, (srcs [c])[0]? = some p → (owns [r])[0]? = some E → look M k = some E ∧ b k = shiftL σ.mem β p) : V1 ⟨M, b, F, w⟩ (relab1 k r) y := by
  cases c <;> simp only [own1, reduceCtorEq, Option.some.injEq] at he
  case int => subst he; exact hv
  case bool => subst he; exact hv
  case str => subst he; exact hv
  case ro t l => subst he; exact DRel.mono (t := .list t) hF (fun _ _ => rfl) hv
  case slw e =>
    obtain ⟨t, l, hl, hs⟩ := hv
    have hl : look σ.mem e = _ := hl
    rw [hl] at he
    simp only [Option.some.injEq] at he
    subst he
    obtain ⟨h1, h2⟩ := hM (e, 0) (.row t l) rfl rfl
    refine ⟨t, l, h1, ?_⟩
    show SlAt (b k) t.size 0 l.length y
    have := hs.shift
    rw [h2, shiftL, hl]
    exact this
  case sl e o n =>
    obtain ⟨t, l, hl, ho, hs, _⟩ := hv
    have hl : look σ.mem e = _ := hl
    rw [hl] at he
    simp only [Option.some.injEq] at he
    subst he
    obtain ⟨h1, h2⟩ := hM (e, o) (.row t ((l.drop o).take n)) rfl rfl
    refine ⟨t, _, h1, ?_⟩
    show SlAt (b k) t.size 0 _ y
    have hlen : ((l.drop o).take n).length = n := by simp; omega
    rw [h2, shiftL, hl, hlen]
    exact hs.shift

theorem srcs_one (c : V) (cs : List V) : srcs (c :: cs) = srcs [c] ++ srcs cs := by cases c <;> rfl
theorem owns_one (c : V) (cs : List V) : owns (c :: cs) = owns [c] ++ owns cs := by cases c <;> rfl
theorem owns_cnt (c : V) : (owns [c]).length = cnt1 c := by cases c <;> rfl
theorem srcs_own1 {m : List (Nat × Entry)} {c r : V} (h : own1 m c = some r) : (srcs [c]).length = cnt1 r := by
  cases c <;> simp only [own1, reduceCtorEq, Option.some.injEq] at h
  case slw e => split at h <;> simp only [reduceCtorEq, Option.some.injEq] at h; subst h; rfl
  case sl e o n => split at h <;> simp only [reduceCtorEq, Option.some.injEq] at h; subst h; rfl
  all_goals subst h; rfl

theorem own_valL {M : List (Nat × Entry)} {b : Nat → Option Loc} {F : Nat → Prop} (hF : ∀ g, Free C σ.mem β w g → F g) : ∀ (cs rs : List V) (k : Nat) {ys : List Value}, All2 (V1 (cx C β σ w)) cs ys → allS (own1 σ.mem) cs = some rs →
    (∀ i p E, (srcs cs)[i]? = some p → (owns rs)[i]? = some E → look M (k + i) = some E ∧ b (k + i) = shiftL σ.mem β p) → All2 (V1 ⟨M, b, F, w⟩) (relabL k rs) ys ∧ (srcs cs).length = cntL rs
  | [], rs, k, ys, ha, he, _ => by
    simp only [allS, Option.some.injEq] at he
    subst he
    cases ys with
    | nil => exact ⟨trivial, rfl⟩
    | cons y ys => exact ha.elim
  | c :: cs, rs, k, ys, ha, he, hM => by
    cases ys with
    | nil => exact ha.elim
    | cons y ys =>
      simp only [allS] at he
      cases h1 : own1 σ.mem c with
      | none => rw [h1] at he; cases he
      | some x =>
        rw [h1] at he
        cases h2 : allS (own1 σ.mem) cs with
        | none => rw [h2] at he; cases he
        | some xs =>
          rw [h2] at he
          simp only [Option.some.injEq] at he
          subst he
          have hlen := srcs_own1 h1
          have hlen2 := owns_cnt x
          obtain ⟨ih1, ih2⟩ := own_valL hF cs xs (k + cnt1 x) ha.2 h2 (fun i p E hp hE => by
            have := hM (cnt1 x + i) p E (by rw [srcs_one, List.getElem?_append_right (by omega), hlen, Nat.add_sub_cancel_left]; exact hp) (by rw [owns_one, List.getElem?_append_right (by omega), hlen2, Nat.add_sub_cancel_left]; exact hE)
            rw [← Nat.add_assoc] at this
            exact this)
          refine ⟨⟨own1_val hF ha.1 h1 fun p E hp hE => ?_, ih1⟩, ?_⟩
          · have := hM 0 p E (by rw [srcs_one, List.getElem?_append_left (List.getElem?_eq_some_iff.1 hp).1]; exact hp) (by rw [owns_one, List.getElem?_append_left (List.getElem?_eq_some_iff.1 hE).1]; exact hE)
            simpa using this
          · rw [srcs_one, List.length_append, hlen, ih2]; rfl

theorem srcs_append : ∀ (a b : List V), srcs (a ++ b) = srcs a ++ srcs b
  | [], b => rfl
  | c :: a, b => by rw [List.cons_append, srcs_one, srcs_append a b, ← List.append_assoc, ← srcs_one]
theorem owns_append : ∀ (a b : List V), owns (a ++ b) = owns a ++ owns b
  | [], b => rfl
  | c :: a, b => by rw [List.cons_append, owns_one, owns_append a b, ← List.append_assoc, ← owns_one]
theorem owns_cntL : ∀ (cs : List V), (owns cs).length = cntL cs
  | [] => rfl
  | c :: cs => by rw [owns_one, List.length_append, owns_cnt, owns_cntL cs]; rfl

theorem allS_one {f : V → Option V} {v x : V} (h : f v = some x) : allS f [v] = some [x] := by simp [allS, h]

theorem allS_append {f : V → Option V} : ∀ {a b ra rb : List V}, allS f a = some ra → allS f b = some rb → allS f (a ++ b) = some (ra ++ rb)
  | [], b, ra, rb, h1, h2 => by simp only [allS, Option.some.injEq] at h1; subst h1; exact h2
  | v :: a, b, ra, rb, h1, h2 => by
    simp only [allS] at h1
    cases h3 : f v with
    | none => rw [h3] at h1; cases h1
    | some x =>
      rw [h3] at h1
      cases h4 : allS f a with
      | none => rw [h4] at h1; cases h1
      | some xs =>
        rw [h4] at h1
        simp only [Option.some.injEq] at h1
        subst h1
        have := allS_append h4 h2
        simp [allS, h3, this]

theorem own1_cells {m : List (Nat × Entry)} {v r : V} (h : own1 m v = some r) : v.cells = [v] ∧ r.cells = [r] ∧ v.isAgg = false ∧ v.isTup = false ∧ r.isAgg = false ∧ r.isTup = false := by
  cases v <;> simp only [own1, reduceCtorEq, Option.some.injEq] at h
  case slw e => split at h <;> simp only [reduceCtorEq, Option.some.injEq] at h; subst h; exact ⟨rfl, rfl, rfl, rfl, rfl, rfl⟩
  case sl e o n => split at h <;> simp only [reduceCtorEq, Option.some.injEq] at h; subst h; exact ⟨rfl, rfl, rfl, rfl, rfl, rfl⟩
  all_goals subst h; exact ⟨rfl, rfl, rfl, rfl, rfl, rfl⟩

theorem own2_cells {m : List (Nat × Entry)} {v r : V} (h : own2 m v = some r) : allS (own1 m) v.cells = some r.cells ∧ v.isTup = false ∧ r.isTup = false := by
  by_cases hv : v.isAgg = true
  · cases v <;> simp only [V.isAgg, Bool.false_eq_true] at hv
    simp only [own2, Option.map_eq_some_iff] at h
    obtain ⟨rs, h, rfl⟩ := h
    exact ⟨h, rfl, rfl⟩
  · have h1 : own1 m v = some r := by cases v <;> first | exact h | simp [V.isAgg] at hv
    obtain ⟨e1, e2, _, e3, _, e4⟩ := own1_cells h1
    rw [e1, e2]
    exact ⟨allS_one h1, e3, e4⟩

theorem own2_val {M : List (Nat × Entry)} {b : Nat → Option Loc} {F : Nat → Prop} (hF : ∀ g, Free C σ.mem β w g → F g) {v r : V} {y : Value} {k : Nat} (hv : V2 (cx C β σ w) v y) (he : own2 σ.mem v = some r)
    (hM : ∀ i p E, (srcs v.cells)[i]? = some p → (owns r.cells)[i]? = some E → look M (k + i) = some E ∧ b (k + i) = shiftL σ.mem β p) : V2 ⟨M, b, F, w⟩ (relab2 k r) y := by
  obtain ⟨hc, _⟩ := own2_cells he
  rcases V2.cases hv with ⟨cs, rfl, ys, rfl, ha⟩ | ⟨hag, h1⟩
  · simp only [own2, Option.map_eq_some_iff] at he
    obtain ⟨rs, he, rfl⟩ := he
    exact ⟨ys, rfl, (own_valL hF cs rs k ha he hM).1⟩
  · have he1 : own1 σ.mem v = some r := by cases v <;> first | exact he | simp [V.isAgg] at hag
    obtain ⟨e1, e2, _, _, e3, _⟩ := own1_cells he1
    have : relab2 k r = relab1 k r := by cases r <;> first | rfl | simp [V.isAgg] at e3
    rw [this]
    rw [e1, e2] at hM
    have := own1_val (M := M) (b := b) (k := k) hF h1 he1 fun p E hp hE => by simpa using hM 0 p E hp hE
    exact V2.of1 this

theorem own_valT {M : List (Nat × Entry)} {b : Nat → Option Loc} {F : Nat → Prop} (hF : ∀ g, Free C σ.mem β w g → F g) : ∀ (vs rs : List V) (k : Nat) {ys : List Value}, All2 (V2 (cx C β σ w)) vs ys → allS (own2 σ.mem) vs = some rs →
    (∀ i p E, (srcs (vs.flatMap V.cells))[i]? = some p → (owns (rs.flatMap V.cells))[i]? = some E → look M (k + i) = some E ∧ b (k + i) = shiftL σ.mem β p) → All2 (V2 ⟨M, b, F, w⟩) (relabT k rs) ys
  | [], rs, k, ys, ha, he, _ => by
    simp only [allS, Option.some.injEq] at he
    subst he
    cases ys with
    | nil => exact trivial
    | cons y ys => exact ha.elim
  | v :: vs, rs, k, ys, ha, he, hM => by
    cases ys with
    | nil => exact ha.elim
    | cons y ys =>
      simp only [allS] at he
      cases h1 : own2 σ.mem v with
      | none => rw [h1] at he; cases he
      | some x =>
        rw [h1] at he
        cases h2 : allS (own2 σ.mem) vs with
        | none => rw [h2] at he; cases he
        | some xs =>
          rw [h2] at he
          simp only [Option.some.injEq] at he
          subst he
          have hcells := (own2_cells h1).1
          have hl2 := owns_cntL x.cells
          have hl1 : (srcs v.cells).length = cntL x.cells := by
            have : ∀ (cs rs : List V), allS (own1 σ.mem) cs = some rs → (srcs cs).length = cntL rs := by
              intro cs
              induction cs with
              | nil => intro rs h; simp only [allS, Option.some.injEq] at h; subst h; rfl
              | cons c cs ih =>
                intro rs h
                simp only [allS] at h
                cases h3 : own1 σ.mem c with
                | none => rw [h3] at h; cases h
                | some z =>
                  rw [h3] at h
                  cases h4 : allS (own1 σ.mem) cs with
                  | none => rw [h4] at h; cases h
                  | some zs =>
                    rw [h4] at h
                    simp only [Option.some.injEq] at h
                    subst h
                    rw [srcs_one, List.length_append, srcs_own1 h3, ih zs h4]; rfl
            exact this _ _ hcells
          refine ⟨own2_val hF ha.1 h1 fun i p E hp hE => hM i p E ?_ ?_, own_valT hF vs xs _ ha.2 h2 fun i p E hp hE => ?_⟩
          · rw [List.flatMap_cons, srcs_append, List.getElem?_append_left (List.getElem?_eq_some_iff.1 hp).1]; exact hp
          · rw [List.flatMap_cons, owns_append, List.getElem?_append_left (List.getElem?_eq_some_iff.1 hE).1]; exact hE
          · have := hM (cntL x.cells + i) p E (by rw [List.flatMap_cons, srcs_append, List.getElem?_append_right (by omega), hl1, Nat.add_sub_cancel_left]; exact hp) (by rw [List.flatMap_cons, owns_append, List.getElem?_append_right (by omega), hl2, Nat.add_sub_cancel_left]; exact hE)
            rw [← Nat.add_assoc] at this
            exact this

end
end Go.Proofs.Ytiboikgoaihccaa.R
