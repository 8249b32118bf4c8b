/-
Texts of package route, put together by program.
-/
import Derived.Test.YtiboikgoaihccaaM1
import Derived.Test.YtiboikgoaihccaaProg
import Derived.Test.YtiboikgoaihccaaRC
import Derived.Test.YtiboikgoaihccaaTt
import Derived.KernelRfl
namespace Go.Proofs.Ytiboikgoaihccaa.R

section
set_option linter.unusedVariables false

/-- One arc from v: what it leads to, if that was not seen. -/
def scanS (gl : List Lk) (cs f : List Int) (v : Int) (s : List Int × List Int) (a : Int) : List Int × List Int :=
  bif decide (rdI s.1 (arcTo gl a) < 0) && decide (roomA cs f a > 0) then (s.1.set (arcTo gl a).toNat (rdI s.1 v + 1), s.2 ++ [arcTo gl a]) else s

def bfs (gl : List Lk) (cs f : List Int) : Nat → List Int → List Int → List Int
  | 0, o, _ => o
  | _ + 1, o, [] => o
  | n + 1, o, v :: q => bfs gl cs f n ((rowA gl v).foldl (scanS gl cs f v) (o, q)).1 ((rowA gl v).foldl (scanS gl cs f v) (o, q)).2

def negs (o : List Int) : Nat := o.countP fun x => decide (x < 0)

def levels0 (m : Nat) (src : Int) : List Int := (List.replicate m (-1)).set src.toNat 0
def levelsOf (g : Gr) (cs f : List Int) (src : Int) : List Int := bfs g.2 cs f 9 (levels0 g.1.toNat src) [src]

/-- Levels are bounded by how many are not seen. -/
structure Lv (m : Nat) (o : List Int) : Prop where
  len : o.length = m
  lo : ∀ i : Int, 0 ≤ i ∧ i < (m : Int) → -1 ≤ rdI o i ∧ rdI o i + (negs o : Int) + 1 ≤ (m : Int)

theorem countP_set_neg : ∀ {o : List Int} {i : Nat} {x y : Int}, o[i]? = some x → x < 0 → 0 ≤ y → negs (o.set i y) + 1 = negs o
  | z :: o, 0, x, y, h, hx, hy => by
    simp only [List.getElem?_cons_zero, Option.some.injEq] at h
    subst h
    simp [negs, hx, Int.not_lt.2 hy]
  | z :: o, i + 1, x, y, h, hx, hy => by
    have ih := countP_set_neg (o := o) (i := i) (by simpa using h) hx hy
    simp only [negs, List.set_cons_succ, List.countP_cons] at ih ⊢
    omega
  | [], _, _, _, h, _, _ => by simp at h

theorem Lv.step {m : Nat} {o : List Int} (h : Lv m o) {v w : Int} (hv : 0 ≤ v ∧ v < (m : Int)) (hw : 0 ≤ w ∧ w < (m : Int)) (h0 : 0 ≤ rdI o v) (hn : rdI o w < 0) :
    Lv m (o.set w.toNat (rdI o v + 1)) ∧ negs (o.set w.toNat (rdI o v + 1)) + 1 = negs o := by
  have hl := h.len
  have hc := countP_set_neg (rdI_get (f := o) (i := w) (by omega)) hn (by omega : 0 ≤ rdI o v + 1)
  refine ⟨⟨by simpa using h.len, fun i hi => ?_⟩, hc⟩
  rw [rdI_set (by omega) (by omega)]
  have h1 := h.lo i hi
  have h2 := h.lo v hv
  cases hd : w == i with
  | true => rw [cT]; omega
  | false => rw [cF]; omega

/-- What is so at each arc of a scan, so at its end. -/
theorem fold_inv {α β : Type} (f : β → α → β) (I : List α → β → Prop) : ∀ (l : List α) (s : β), (∀ a t s, I (a :: t) s → I t (f s a)) → I l s → I [] (l.foldl f s)
  | [], s, _, h => h
  | a :: l, s, hs, h => fold_inv f I l (f s a) hs (hs a l s h)

theorem arcTo_in {g : Gr} (hg : graphMay g = true) {a : Int} (ha : arcIn g.2.length a = true) : 0 ≤ arcTo g.2 a ∧ arcTo g.2 a < g.1 := by
  have hL := arcL_lt ha
  have hi : (arcL a).toNat < g.2.length := by omega
  have hx := List.getElem?_eq_getElem hi
  have := link_at hg hx
  have e : lk g.2 (arcL a) = g.2[(arcL a).toNat] := by
    have := rd_some (t := tLk) hx
    rw [show (((arcL a).toNat : Nat) : Int) = arcL a by omega] at this
    exact this
  unfold arcTo
  rw [e]
  cases backB a with
  | true => rw [cT]; exact this.1
  | false => rw [cF]; exact this.2.1

theorem rowA_mem {gl : List Lk} {v a : Int} : a ∈ rowA gl v ↔ arcIn gl.length a = true ∧ arcFrom gl a = v := by
  unfold rowA
  rw [List.mem_filter, upto_mem]
  constructor
  · rintro ⟨h1, h2⟩
    exact ⟨decide_eq_true (by omega), eq_of_beq h2⟩
  · rintro ⟨h1, h2⟩
    have := of_decide_eq_true h1
    exact ⟨by omega, by rw [h2]; simp⟩

/-- What holds of levels and a row of vertices that are still to be gone from. -/
structure Bf (g : Gr) (cs f : List Int) (src : Int) (o q : List Int) : Prop where
  lv : Lv g.1.toNat o
  src0 : rdI o src = 0
  qIn : ∀ v ∈ q, (0 ≤ v ∧ v < g.1) ∧ 0 ≤ rdI o v
  back : ∀ w, 0 ≤ w ∧ w < g.1 → 0 ≤ rdI o w → w ≠ src → ∃ v a, (0 ≤ v ∧ v < g.1) ∧ a ∈ rowA g.2 v ∧ arcTo g.2 a = w ∧ roomA cs f a > 0 ∧ 0 ≤ rdI o v ∧ rdI o w = rdI o v + 1

/-- Where v's arcs up to some are gone through. -/
structure Bs (g : Gr) (cs f : List Int) (src v : Int) (t : List Int) (s : List Int × List Int) : Prop where
  b : Bf g cs f src s.1 s.2
  vIn : (0 ≤ v ∧ v < g.1) ∧ 0 ≤ rdI s.1 v
  sub : ∀ a ∈ t, a ∈ rowA g.2 v
  done : ∀ a ∈ rowA g.2 v, a ∉ t → roomA cs f a > 0 → 0 ≤ rdI s.1 (arcTo g.2 a)
  old : ∀ u, 0 ≤ u ∧ u < g.1 → 0 ≤ rdI s.1 u → u ∉ s.2 → u ≠ v → ∀ a ∈ rowA g.2 u, roomA cs f a > 0 → 0 ≤ rdI s.1 (arcTo g.2 a)

theorem Bs.step {g : Gr} (hg : graphMay g = true) {cs f : List Int} {src v a : Int} {t : List Int} {s : List Int × List Int} (hsrc : 0 ≤ src ∧ src < g.1) (h : Bs g cs f src v (a :: t) s) : Bs g cs f src v t (scanS g.2 cs f v s a) := by
  obtain ⟨o, q⟩ := s
  have ha := h.sub a (by simp)
  have hto := arcTo_in hg (rowA_mem.1 ha).1
  have hl : o.length = g.1.toNat := h.b.lv.len
  unfold scanS
  cases hd : decide (rdI o (arcTo g.2 a) < 0) && decide (roomA cs f a > 0) with
  | false =>
    rw [cF]
    refine ⟨h.b, h.vIn, fun b hb => h.sub b (by simp [hb]), fun b hb hn hr => ?_, h.old⟩
    by_cases hba : b = a
    · subst hba
      by_cases hx : rdI o (arcTo g.2 b) < 0
      · rw [decide_eq_true hx, decide_eq_true hr] at hd
        cases hd
      · exact Int.not_lt.1 hx
    · exact h.done b hb (by simp [hba, hn]) hr
  | true =>
    rw [cT]
    rw [Bool.and_eq_true] at hd
    have hn := of_decide_eq_true hd.1
    have hr := of_decide_eq_true hd.2
    have hv0 : 0 ≤ rdI o v := h.vIn.2
    obtain ⟨h1, h2⟩ := h.b.lv.step (v := v) (w := arcTo g.2 a) (by have := h.vIn.1; omega) (by omega) hv0 hn
    have at_ : ∀ i, 0 ≤ i ∧ i < g.1 → rdI (o.set (arcTo g.2 a).toNat (rdI o v + 1)) i = bif arcTo g.2 a == i then rdI o v + 1 else rdI o i := fun i hi => rdI_set (by omega) (by omega)
    have keep : ∀ i, 0 ≤ i ∧ i < g.1 → 0 ≤ rdI o i → rdI (o.set (arcTo g.2 a).toNat (rdI o v + 1)) i = rdI o i := fun i hi h0 => by
      rw [at_ i hi, show (arcTo g.2 a == i) = false from beq_eq_false_iff_ne.2 (fun e => by rw [e] at hn; omega), cF]
    have new : rdI (o.set (arcTo g.2 a).toNat (rdI o v + 1)) (arcTo g.2 a) = rdI o v + 1 := by
      rw [at_ _ hto, show (arcTo g.2 a == arcTo g.2 a) = true by simp, cT]
    have mono : ∀ i, 0 ≤ i ∧ i < g.1 → 0 ≤ rdI o i → 0 ≤ rdI (o.set (arcTo g.2 a).toNat (rdI o v + 1)) i := fun i hi h0 => by rw [keep i hi h0]; exact h0
    have was : ∀ i, 0 ≤ i ∧ i < g.1 → 0 ≤ rdI (o.set (arcTo g.2 a).toNat (rdI o v + 1)) i → i ≠ arcTo g.2 a → 0 ≤ rdI o i := fun i hi h0 hne => by
      rw [at_ i hi, show (arcTo g.2 a == i) = false from beq_eq_false_iff_ne.2 (Ne.symm hne), cF] at h0
      exact h0
    refine ⟨⟨h1, ?_, fun u hu => ?_, fun w hw h0 hws => ?_⟩, ⟨h.vIn.1, mono _ h.vIn.1 hv0⟩, fun b hb => h.sub b (by simp [hb]), fun b hb hnb hrb => ?_, fun u hu h0 hq hne b hb hrb => ?_⟩
    · rw [keep _ hsrc (by rw [h.b.src0]; exact Int.le_refl _)]
      exact h.b.src0
    · rcases List.mem_append.1 hu with hu | hu
      · obtain ⟨u1, u2⟩ := h.b.qIn u hu
        exact ⟨u1, mono _ u1 u2⟩
      · obtain rfl : u = arcTo g.2 a := by simpa using hu
        exact ⟨hto, by dsimp only; rw [new]; omega⟩
    · by_cases he : w = arcTo g.2 a
      · subst he
        refine ⟨v, a, h.vIn.1, ha, rfl, hr, mono _ h.vIn.1 hv0, ?_⟩
        dsimp only
        rw [new, keep _ h.vIn.1 hv0]
      · have hw0 := was w hw h0 he
        obtain ⟨u, b, u1, u2, u3, u4, u5, u6⟩ := h.b.back w hw hw0 hws
        exact ⟨u, b, u1, u2, u3, u4, mono _ u1 u5, by dsimp only; rw [keep _ hw hw0, keep _ u1 u5]; exact u6⟩
    · have hbt := arcTo_in hg (rowA_mem.1 hb).1
      by_cases hba : b = a
      · subst hba
        dsimp only
        rw [new]
        omega
      · exact mono _ hbt (h.done b hb (by simp [hba, hnb]) hrb)
    · have hbt := arcTo_in hg (rowA_mem.1 hb).1
      by_cases hua : u = arcTo g.2 a
      · exact absurd (List.mem_append.2 (.inr (by simp [hua]))) hq
      · exact mono _ hbt (h.old u hu (was u hu h0 hua) (fun hm => hq (List.mem_append.2 (.inl hm))) hne b hb hrb)

/-- A round's number of those that are to come, with those not seen. -/
theorem scan_count {g : Gr} (hg : graphMay g = true) {cs f : List Int} {src v : Int} (hsrc : 0 ≤ src ∧ src < g.1) {l : List Int} {s : List Int × List Int} (h : Bs g cs f src v l s) :
    negs (l.foldl (scanS g.2 cs f v) s).1 + (l.foldl (scanS g.2 cs f v) s).2.length = negs s.1 + s.2.length := by
  induction l generalizing s with
  | nil => rfl
  | cons a l ih =>
    rw [List.foldl_cons, ih (h.step hg hsrc)]
    obtain ⟨o, q⟩ := s
    unfold scanS
    cases hd : decide (rdI o (arcTo g.2 a) < 0) && decide (roomA cs f a > 0) with
    | false => rw [cF]
    | true =>
      rw [cT]
      rw [Bool.and_eq_true] at hd
      have ha := h.sub a (by simp)
      have hto := arcTo_in hg (rowA_mem.1 ha).1
      obtain ⟨_, h2⟩ := h.b.lv.step (v := v) (w := arcTo g.2 a) (by have := h.vIn.1; omega) (by omega) h.vIn.2 (of_decide_eq_true hd.1)
      simp only [List.length_append, List.length_singleton] at h2 ⊢
      omega

/-- What levels are. -/
structure LevelsOk (g : Gr) (cs f : List Int) (src : Int) (o : List Int) : Prop where
  lv : Lv g.1.toNat o
  src0 : rdI o src = 0
  back : ∀ w, 0 ≤ w ∧ w < g.1 → 0 ≤ rdI o w → w ≠ src → ∃ v a, (0 ≤ v ∧ v < g.1) ∧ a ∈ rowA g.2 v ∧ arcTo g.2 a = w ∧ roomA cs f a > 0 ∧ 0 ≤ rdI o v ∧ rdI o w = rdI o v + 1
  on : ∀ u, 0 ≤ u ∧ u < g.1 → 0 ≤ rdI o u → ∀ a ∈ rowA g.2 u, roomA cs f a > 0 → 0 ≤ rdI o (arcTo g.2 a)

/-- Where v is to be gone from next. -/
theorem Bs.start {g : Gr} {cs f : List Int} {src v : Int} {o q : List Int} (h : Bf g cs f src o (v :: q))
    (hold : ∀ u, 0 ≤ u ∧ u < g.1 → 0 ≤ rdI o u → u ∉ v :: q → ∀ a ∈ rowA g.2 u, roomA cs f a > 0 → 0 ≤ rdI o (arcTo g.2 a)) : Bs g cs f src v (rowA g.2 v) (o, q) :=
  ⟨⟨h.lv, h.src0, fun u hu => h.qIn u (by simp [hu]), h.back⟩, h.qIn v (by simp), fun a ha => ha, fun a ha hn => absurd ha hn, fun u hu h0 hq hne => hold u hu h0 (by simp [hne]; exact hq)⟩

theorem bfs_ok {g : Gr} (hg : graphMay g = true) {cs f : List Int} {src : Int} (hsrc : 0 ≤ src ∧ src < g.1) : ∀ (n : Nat) (o q : List Int), Bf g cs f src o q →
    (∀ u, 0 ≤ u ∧ u < g.1 → 0 ≤ rdI o u → u ∉ q → ∀ a ∈ rowA g.2 u, roomA cs f a > 0 → 0 ≤ rdI o (arcTo g.2 a)) → negs o + q.length < n → LevelsOk g cs f src (bfs g.2 cs f n o q)
  | 0, o, q, _, _, h => by omega
  | n + 1, o, [], hb, hold, h => ⟨hb.lv, hb.src0, hb.back, fun u hu h0 => hold u hu h0 (by simp)⟩
  | n + 1, o, v :: q, hb, hold, h => by
    have hs := Bs.start hb hold
    have hc := scan_count hg hsrc hs
    have he := fold_inv (scanS g.2 cs f v) (Bs g cs f src v) (rowA g.2 v) (o, q) (fun a t s hst => hst.step hg hsrc) hs
    simp only [bfs]
    refine bfs_ok hg hsrc n _ _ he.b (fun u hu h0 hq a ha hr => ?_) (by simp only [List.length_cons] at h; dsimp only at hc; omega)
    by_cases huv : u = v
    · subst huv
      exact he.done a ha (by simp) hr
    · exact he.old u hu h0 hq huv a ha hr

theorem negs_replicate (m : Nat) : negs (List.replicate m (-1)) = m := by simp [negs, List.countP_replicate]
theorem rdI_replicate {m : Nat} {x i : Int} (h : 0 ≤ i ∧ i < (m : Int)) : rdI (List.replicate m x) i = x := by
  have := rdI_get (f := List.replicate m x) (i := i) (by simpa using h)
  rw [List.getElem?_replicate, if_pos (by omega)] at this
  exact (Option.some.inj this).symm

theorem levels0_ok {g : Gr} {cs f : List Int} {src : Int} (hsrc : 0 ≤ src ∧ src < g.1) : Bf g cs f src (levels0 g.1.toNat src) [src] ∧ negs (levels0 g.1.toNat src) + 1 = g.1.toNat := by
  have at_ : ∀ i, 0 ≤ i ∧ i < g.1 → rdI (levels0 g.1.toNat src) i = bif src == i then 0 else -1 := fun i hi => by
    unfold levels0
    rw [rdI_set (by simp; omega) (by simp; omega), rdI_replicate (by omega)]
  have hc : negs (levels0 g.1.toNat src) + 1 = g.1.toNat := by
    have := countP_set_neg (o := List.replicate g.1.toNat (-1)) (i := src.toNat) (x := -1) (y := 0) (by rw [List.getElem?_replicate, if_pos (by omega)]) (by omega) (by omega)
    rw [negs_replicate] at this
    exact this
  refine ⟨⟨⟨by simp [levels0], fun i hi => ?_⟩, ?_, fun v hv => ?_, fun w hw h0 hne => ?_⟩, hc⟩
  · rw [at_ i (by omega)]
    cases src == i <;> simp only [cT, cF] <;> omega
  · rw [at_ _ hsrc, show (src == src) = true by simp, cT]
  · obtain rfl : v = src := by simpa using hv
    exact ⟨hsrc, by rw [at_ _ hsrc, show (v == v) = true by simp, cT]; exact Int.le_refl _⟩
  · rw [at_ w hw, show (src == w) = false from beq_eq_false_iff_ne.2 (Ne.symm hne), cF] at h0
    omega

theorem levels_ok {g : Gr} (hg : graphMay g = true) {cs f : List Int} {src : Int} (hsrc : 0 ≤ src ∧ src < g.1) : LevelsOk g cs f src (levelsOf g cs f src) := by
  obtain ⟨h1, h2⟩ := levels0_ok (g := g) (cs := cs) (f := f) hsrc
  have hp := graphMay_parts hg
  refine bfs_ok hg hsrc 9 _ _ h1 (fun u hu h0 hq => ?_) (by simp only [List.length_singleton]; omega)
  have hne : src ≠ u := fun e => hq (by simp [e])
  have : rdI (levels0 g.1.toNat src) u = -1 := by
    unfold levels0
    rw [rdI_set (by simp; omega) (by simp; omega), rdI_replicate (by omega), show (src == u) = false from beq_eq_false_iff_ne.2 hne, cF]
  omega
end

section
set_option maxRecDepth 100000
set_option linter.unusedVariables false
noncomputable def f124.E (k : Nat) : Env := mkEnv tt [(92, S92), (132, S132), (137, S137), (138, S138), (139, S139)] [] [(124, 11, [.kill (rg [(0, 0), (3, 9), (11, 11), (15, 67), (71, 104)]), .tidy]), (124, 7, [.kill (rg [(0, 0), (3, 9), (11, 11), (14, 104)]), .reb 1, .reb 2, .reb 10, .reb 12, .reb 13, .tidy])] [] k
noncomputable def f124.code : Go.Code := (Go.Func.body Try.f124).getD .skip
noncomputable def f124.l0 (k n : Nat) (p0 : List Int) (p1 : List Int) (p2 : List Int) (p3 : List Int) (p4 : List Int) (p5 : List Int) (p6 : List Int) : Option V :=
  atPath (f124.E k) n ⟨[.undef, (.ro (.int .i64) (p0)), (.ro (.int .i64) (p1)), .undef, .undef, .undef, .undef, .undef, .undef, .undef, (.ptr (2621456 : Nat) ((0 : Nat)) ((0 : Nat))), .undef, (.slw (3145744 : Nat)), (.slw (3407888 : Nat)), .undef, .undef, .undef, .undef, .undef, .undef, .undef, .undef, .undef, .undef, .undef, .undef, .undef, .undef, .undef, .undef, .undef, .undef, .undef, .undef, .undef, .undef, .undef, .undef, .undef, .undef, .undef, .undef, .undef, .undef, .undef, .undef, .undef, .undef, .undef, .undef, .undef, .undef, .undef, .undef, .undef, .undef, .undef, .undef, .undef, .undef, .undef, .undef, .undef, .undef, .undef, .undef, .undef, .undef, .undef, .undef, .undef, .undef, .undef, .undef, .undef, .undef, .undef, .undef, .undef, .undef, .undef, .undef, .undef, .undef, .undef, .undef, .undef, .undef, .undef, .undef, .undef, .undef, .undef, .undef, .undef, .undef, .undef, .undef, .undef, .undef, .undef, .undef, .undef, .undef, .undef], [], [((2621456 : Nat), .box [(.slw (687198961712 : Nat)), (.slw (687198961776 : Nat)), (.slw (687198961840 : Nat))]), ((3145744 : Nat), .row (.int .i64) (p2)), ((3407888 : Nat), .row (.int .i64) (p3)), ((687198961712 : Nat), .row (.int .i64) (p4)), ((687198961776 : Nat), .row (.int .i64) (p5)), ((687198961840 : Nat), .row (.int .i64) (p6))]⟩ 9 0 124 [.c 1, .c 1, .c 1, .c 1, .c 1, .c 0, .c 1, .c 0] [] f124.code (finK tt Try.f124)
noncomputable def f124.l1 (k n m0 : Nat) (p0 : List Int) (p1 : List Int) (p2 : Int) (p3 : Nat) (p4 : Nat) (p5 : Int) (p6 : Int) (p7 : List Int) (p8 : List Int) (p9 : List Int) (p10 : List Int) (p11 : List Int) : Option V :=
  atPath (f124.E k) n ⟨[.undef, (.ro (.int .i64) (p0)), (.ro (.int .i64) (p1)), .undef, .undef, .undef, .undef, .undef, .undef, .undef, (.ptr (2621456 : Nat) ((0 : Nat)) ((0 : Nat))), .undef, (.slw (3145744 : Nat)), (.slw (3407888 : Nat)), (.int .i64 (p2)), .undef, .undef, .undef, .undef, .undef, .undef, .undef, .undef, .undef, .undef, .undef, .undef, .undef, .undef, .undef, .undef, .undef, .undef, .undef, .undef, .undef, .undef, .undef, .undef, .undef, .undef, .undef, .undef, .undef, .undef, .undef, .undef, .undef, .undef, .undef, .undef, .undef, .undef, .undef, .undef, .undef, .undef, .undef, .undef, .undef, .undef, .undef, .undef, .undef, .undef, .undef, .undef, .undef, (.sl (687198961776 : Nat) (p3) (p4)), (.int .i64 (p5)), (.int .i64 (p6)), .undef, .undef, .undef, .undef, .undef, .undef, .undef, .undef, .undef, .undef, .undef, .undef, .undef, .undef, .undef, .undef, .undef, .undef, .undef, .undef, .undef, .undef, .undef, .undef, .undef, .undef, .undef, .undef, .undef, .undef, .undef, .undef, .undef, .undef], [], [((2621456 : Nat), .box [(.slw (687198961712 : Nat)), (.slw (687198961776 : Nat)), (.slw (687198961840 : Nat))]), ((3145744 : Nat), .row (.int .i64) (p7)), ((3407888 : Nat), .row (.int .i64) (p8)), ((687198961712 : Nat), .row (.int .i64) (p9)), ((687198961776 : Nat), .row (.int .i64) (p10)), ((687198961840 : Nat), .row (.int .i64) (p11))]⟩ 9 0 124 [.c 1, .c 1, .c 1, .c 1, .c 1, .c 0, .c 1, .c 0, .c 0, .c 1, .c 0, .c 0, .c 1, .c 1, .c 0] [m0] f124.code (finK tt Try.f124)
theorem f124.l0_eq (k n : Nat) (p0 : List Int) (p1 : List Int) (p2 : List Int) (p3 : List Int) (p4 : List Int) (p5 : List Int) (p6 : List Int) : f124.l0 k (n + 1) p0 p1 p2 p3 p4 p5 p6 =
  bif decide ((↑p3.length : Int) > (0 : Int)) then (chk (decide ((0 : Int) ≤ (0 : Int) ∧ (0 : Int) < (↑p3.length : Int))) (chk (decide ((0 : Int) ≤ rd (Ty.int Go.IntKind.i64) p3 (↑(0 : Nat) : Int) ∧ rd (Ty.int Go.IntKind.i64) p3 (↑(0 : Nat) : Int) < (↑p4.length : Int))) (chk (decide ((0 : Int) ≤ Go.IntKind.i64.wrap (rd (Ty.int Go.IntKind.i64) p3 (↑(0 : Nat) : Int) + (1 : Int)) ∧ Go.IntKind.i64.wrap (rd (Ty.int Go.IntKind.i64) p3 (↑(0 : Nat) : Int) + (1 : Int)) < (↑p4.length : Int))) (chk (decide ((0 : Int) ≤ rd (Ty.int Go.IntKind.i64) p4 (↑(Int.toNat (rd (Ty.int Go.IntKind.i64) p3 (↑(0 : Nat) : Int))) : Int) ∧ rd (Ty.int Go.IntKind.i64) p4 (↑(Int.toNat (rd (Ty.int Go.IntKind.i64) p3 (↑(0 : Nat) : Int))) : Int) ≤ rd (Ty.int Go.IntKind.i64) p4 (↑(Go.IntKind.i64.wrap (rd (Ty.int Go.IntKind.i64) p3 (↑(0 : Nat) : Int) + (1 : Int))).toNat : Int))) (chk (decide (rd (Ty.int Go.IntKind.i64) p4 (↑(Go.IntKind.i64.wrap (rd (Ty.int Go.IntKind.i64) p3 (↑(0 : Nat) : Int) + (1 : Int))).toNat : Int) ≤ (↑p5.length : Int))) (f124.l1 k k n (p0) (p1) (rd (Ty.int Go.IntKind.i64) p3 (↑(0 : Nat) : Int)) (Int.toNat (rd (Ty.int Go.IntKind.i64) p4 (↑(Int.toNat (rd (Ty.int Go.IntKind.i64) p3 (↑(0 : Nat) : Int))) : Int))) (Int.toNat (rd (Ty.int Go.IntKind.i64) p4 (↑(Go.IntKind.i64.wrap (rd (Ty.int Go.IntKind.i64) p3 (↑(0 : Nat) : Int) + (1 : Int))).toNat : Int)) - Int.toNat (rd (Ty.int Go.IntKind.i64) p4 (↑(Int.toNat (rd (Ty.int Go.IntKind.i64) p3 (↑(0 : Nat) : Int))) : Int))) ((↑(Int.toNat (rd (Ty.int Go.IntKind.i64) p4 (↑(Go.IntKind.i64.wrap (rd (Ty.int Go.IntKind.i64) p3 (↑(0 : Nat) : Int) + (1 : Int))).toNat : Int)) - Int.toNat (rd (Ty.int Go.IntKind.i64) p4 (↑(Int.toNat (rd (Ty.int Go.IntKind.i64) p3 (↑(0 : Nat) : Int))) : Int))) : Int)) ((0 : Int)) (p2) (p3) (p4) (p5) (p6))))))) else (some (.tup [(.own (.int .i64) (p2)), (.int .i64 ((0 : Int)))])) := by kernel_rfl
theorem f124.l1_eq (k n m0 : Nat) (p0 : List Int) (p1 : List Int) (p2 : Int) (p3 : Nat) (p4 : Nat) (p5 : Int) (p6 : Int) (p7 : List Int) (p8 : List Int) (p9 : List Int) (p10 : List Int) (p11 : List Int) : f124.l1 k (n + 1) m0 p0 p1 p2 p3 p4 p5 p6 p7 p8 p9 p10 p11 =
  bif decide (p6 < p5) then (chk (decide ((0 : Int) ≤ p6 ∧ p6 < (↑p4 : Int))) (chk (decide ((0 : Int) ≤ rd (Ty.int Go.IntKind.i64) p10 (↑(p3 + p6.toNat) : Int) ∧ rd (Ty.int Go.IntKind.i64) p10 (↑(p3 + p6.toNat) : Int) < (↑p11.length : Int))) (chk (decide ((0 : Int) ≤ rd (Ty.int Go.IntKind.i64) p11 (↑(Int.toNat (rd (Ty.int Go.IntKind.i64) p10 (↑(p3 + p6.toNat) : Int))) : Int) ∧ rd (Ty.int Go.IntKind.i64) p11 (↑(Int.toNat (rd (Ty.int Go.IntKind.i64) p10 (↑(p3 + p6.toNat) : Int))) : Int) < (↑p7.length : Int))) (bif decide (rd (Ty.int Go.IntKind.i64) p7 (↑(Int.toNat (rd (Ty.int Go.IntKind.i64) p11 (↑(Int.toNat (rd (Ty.int Go.IntKind.i64) p10 (↑(p3 + p6.toNat) : Int))) : Int))) : Int) < (0 : Int)) then ((chk (decide (p0.length ≤ (16 : Nat) ∧ p1.length = p0.length) && (arcIn p0.length (rd (Ty.int Go.IntKind.i64) p10 (↑(p3 + p6.toNat) : Int)) && rateB (roomA p0 p1 (rd (Ty.int Go.IntKind.i64) p10 (↑(p3 + p6.toNat) : Int))))) (some (roomA p0 p1 (rd (Ty.int Go.IntKind.i64) p10 (↑(p3 + p6.toNat) : Int))))).bind (fun y0 => bif decide (y0 > (0 : Int)) then (chk (decide ((0 : Int) ≤ p2 ∧ p2 < (↑p7.length : Int))) (chk (decide ((0 : Int) ≤ rd (Ty.int Go.IntKind.i64) p11 (↑(Int.toNat (rd (Ty.int Go.IntKind.i64) p10 (↑(p3 + p6.toNat) : Int))) : Int) ∧ rd (Ty.int Go.IntKind.i64) p11 (↑(Int.toNat (rd (Ty.int Go.IntKind.i64) p10 (↑(p3 + p6.toNat) : Int))) : Int) < (↑p7.length : Int))) (chk (decide ((p8 ++ [rd (Ty.int Go.IntKind.i64) p11 (↑(Int.toNat (rd (Ty.int Go.IntKind.i64) p10 (↑(p3 + p6.toNat) : Int))) : Int)]).length * (8 : Nat) ≤ (140737488355328 : Nat))) (f124.l1 k n m0 (p0) (p1) (p2) (p3) (p4) (p5) (Go.IntKind.i64.wrap (p6 + (1 : Int))) (p7.set (Int.toNat (rd (Ty.int Go.IntKind.i64) p11 (↑(Int.toNat (rd (Ty.int Go.IntKind.i64) p10 (↑(p3 + p6.toNat) : Int))) : Int))) (Go.IntKind.i64.wrap (rd (Ty.int Go.IntKind.i64) p7 (↑p2.toNat : Int) + (1 : Int)))) (p8 ++ [rd (Ty.int Go.IntKind.i64) p11 (↑(Int.toNat (rd (Ty.int Go.IntKind.i64) p10 (↑(p3 + p6.toNat) : Int))) : Int)]) (p9) (p10) (p11))))) else (f124.l1 k n m0 (p0) (p1) (p2) (p3) (p4) (p5) (Go.IntKind.i64.wrap (p6 + (1 : Int))) (p7) (p8) (p9) (p10) (p11)))) else (f124.l1 k n m0 (p0) (p1) (p2) (p3) (p4) (p5) (Go.IntKind.i64.wrap (p6 + (1 : Int))) (p7) (p8) (p9) (p10) (p11)))))) else (chk (decide ((0 : Int) ≤ (1 : Int) ∧ (1 : Int) ≤ (↑p8.length : Int))) (chk (decide ((↑p8.length : Int) ≤ (↑p8.length : Int))) (f124.l0 k m0 (p0) (p1) (p7) (List.take ((↑p8.length : Int).toNat - (1 : Nat)) (List.drop (1 : Nat) p8)) (p9) (p10) (p11)))) := by kernel_rfl
theorem f124.eq (k : Nat) (x0 : Int × List (Int × Int × Int)) (x1 : List Int) (x2 : List Int) (x3 : Int) : evFn (f124.E k) 9 124 Try.f124 [(.agg [(.int .i64 (x0.fst)), (.ro (.pair (.int .i64) (.pair (.int .i64) (.int .i64))) (x0.snd))]), (.ro (.int .i64) (x1)), (.ro (.int .i64) (x2)), (.int .i64 (x3))] =
  (chk (graphMay x0) (some ((startsA x0.snd (Int.toNat x0.fst), orderA x0.snd (Int.toNat x0.fst), headsA x0.snd)))).bind (fun y0 => bif !liesB x0 x1 x2 then (some (.tup [(.own (.int .i64) ([])), (.int .i64 ((1000 : Int)))])) else (bif !hasV x0.fst x3 then (some (.tup [(.own (.int .i64) ([])), (.int .i64 ((1000 : Int)))])) else ((chk ([(-1 : Int)] == [(-1 : Int)] && decide ((1 : Int) ≤ x0.fst ∧ x0.fst ≤ (8 : Int))) (some (List.replicate (Int.toNat x0.fst) (-1 : Int)))).bind (fun y1 => chk (decide ((0 : Int) ≤ x3 ∧ x3 < (↑y1.length : Int))) (f124.l0 k k (x1) (x2) (y1.set x3.toNat (0 : Int)) ([x3]) (y0.fst) (y0.snd.fst) (y0.snd.snd)))))) := by kernel_rfl
theorem f124.inl (k : Nat) : InlOk Try.prog (f124.E k) := inl_nil
theorem f124.sums (k : Nat) : SumsOk Try.prog (f124.E k) := (sums_cons ok92 (sums_cons ok132 (sums_cons ok137 (sums_cons ok138 (sums_cons ok139 sums_nil)))))
end

section
set_option linter.unusedVariables false

theorem orderA_front (gl : List Lk) {n m : Nat} (h : n ≤ m) : ∃ t, orderA gl m = orderA gl n ++ t := by
  induction m with
  | zero => obtain rfl : n = 0 := by omega
            exact ⟨[], by simp⟩
  | succ m ih =>
    by_cases he : n = m + 1
    · subst he; exact ⟨[], by simp⟩
    · obtain ⟨t, ht⟩ := ih (by omega)
      exact ⟨t ++ rowA gl m, by rw [orderA_succ, ht, List.append_assoc]⟩

theorem startsA_get (gl : List Lk) {n i : Nat} (h : i ≤ n) : (startsA gl n)[i]? = some ((orderA gl i).length : Int) := by
  unfold startsA
  rw [List.getElem?_map, List.getElem?_range (by omega)]
  rfl
theorem startsA_len (gl : List Lk) (n : Nat) : (startsA gl n).length = n + 1 := by simp [startsA]

theorem orderA_get (gl : List Lk) {m v j : Nat} {a : Int} (hv : v < m) (h : (rowA gl v)[j]? = some a) : (orderA gl m)[(orderA gl v).length + j]? = some a := by
  obtain ⟨t, ht⟩ := orderA_front gl (n := v + 1) (m := m) (by omega)
  have := idx_lt h
  rw [ht, orderA_succ, List.append_assoc, List.getElem?_append_right (by omega), List.getElem?_append_left (by omega)]
  rw [show (orderA gl v).length + j - (orderA gl v).length = j by omega]
  exact h

theorem headsA_get {gl : List Lk} {a : Int} (h : arcIn gl.length a = true) : (headsA gl)[a.toNat]? = some (arcTo gl a) := by
  have h := of_decide_eq_true h
  unfold headsA
  rw [List.getElem?_map, upto_get (by omega), show ((a.toNat : Nat) : Int) = a by omega]
  rfl
theorem headsA_len (gl : List Lk) : (headsA gl).length = 2 * gl.length := by simp [headsA, upto_length]

/-- A round over the arcs of a vertex. -/
theorem f124.l1_is (k m0 : Nat) {g : Gr} (hg : graphMay g = true) {cs f : List Int} (hc : capsMay g cs = true) (hf : withinF f cs = true) {src : Int} (hsrc : 0 ≤ src ∧ src < g.1) (v : Nat) (hv : (v : Int) < g.1) (u : Int) :
    ∀ (n j : Nat) (o q : List Int), j ≤ (rowA g.2 v).length → (rowA g.2 v).length < n + j → q.length ≤ 300 + j → Bs g cs f src v ((rowA g.2 v).drop j) (o, q) →
      f124.l1 k n m0 cs f (v : Int) (orderA g.2 v).length (rowA g.2 v).length ((rowA g.2 v).length : Int) (j : Int) o (u :: q) (startsA g.2 g.1.toNat) (orderA g.2 g.1.toNat) (headsA g.2) =
      f124.l0 k m0 cs f (((rowA g.2 v).drop j).foldl (scanS g.2 cs f v) (o, q)).1 (((rowA g.2 v).drop j).foldl (scanS g.2 cs f v) (o, q)).2 (startsA g.2 g.1.toNat) (orderA g.2 g.1.toNat) (headsA g.2)
  | 0, j, o, q, h, h', _, _ => by omega
  | n + 1, j, o, q, h, h', hq, hb => by
    have hp := graphMay_parts hg
    have hcl := capsMay_len hc
    have hrl := rowA_len g.2 v
    have hol : o.length = g.1.toNat := hb.b.lv.len
    by_cases hlt : j < (rowA g.2 v).length
    · have hx := List.getElem?_eq_getElem hlt
      have ha := rowA_mem.1 (List.getElem_mem hlt)
      have ho := orderA_get g.2 (m := g.1.toNat) (by omega) hx
      have hd := List.drop_eq_getElem_cons hlt
      generalize (rowA g.2 v)[j] = a at hx ha ho hd
      have ha1 : 0 ≤ a ∧ a < 2 * (g.2.length : Int) := of_decide_eq_true ha.1
      have hh := headsA_get ha.1
      have hto := arcTo_in hg ha.1
      rw [hd] at hb
      have hs := hb.step hg hsrc
      have hx1 : rd (Ty.int Go.IntKind.i64) (orderA g.2 g.1.toNat) (((orderA g.2 v).length + (j : Int).toNat : Nat) : Int) = a := by
        rw [show (orderA g.2 v).length + (j : Int).toNat = (orderA g.2 v).length + j by omega]
        exact rd_some (t := tI) ho
      have hx2 : rd (Ty.int Go.IntKind.i64) (headsA g.2) ((a.toNat : Nat) : Int) = arcTo g.2 a := rd_some (t := tI) hh
      have hx3 : rd (Ty.int Go.IntKind.i64) o (((arcTo g.2 a).toNat : Nat) : Int) = rdI o (arcTo g.2 a) := rdI_nat _ _
      have hx4 : rd (Ty.int Go.IntKind.i64) o (((v : Int).toNat : Nat) : Int) = rdI o v := rdI_nat _ _
      have hlv := hb.b.lv.lo v (by omega)
      have hlv : -1 ≤ rdI o v ∧ rdI o v + (negs o : Int) + 1 ≤ (g.1.toNat : Int) := hlv
      have hf16 : f.length = cs.length := withinF_len hf
      have hr := room_rate hc hf (by rw [hcl]; exact ha.1)
      rw [f124.l1_eq, show decide ((j : Int) < ((rowA g.2 v).length : Int)) = true from decide_eq_true (by omega), cT,
        show decide ((0 : Int) ≤ (j : Int) ∧ (j : Int) < ((rowA g.2 v).length : Int)) = true from decide_eq_true (by omega), kT, hx1, hx2, hx3, hx4,
        show decide ((0 : Int) ≤ a ∧ a < ((headsA g.2).length : Int)) = true from decide_eq_true (by rw [headsA_len]; omega), kT,
        show decide ((0 : Int) ≤ arcTo g.2 a ∧ arcTo g.2 a < (o.length : Int)) = true from decide_eq_true (by omega), kT, kT,
        show decide (cs.length ≤ 16 ∧ f.length = cs.length) = true from decide_eq_true ⟨by omega, hf16⟩, Bool.true_and, show arcIn cs.length a = true by rw [hcl]; exact ha.1, Bool.true_and, hr, kT, bS,
        show decide ((0 : Int) ≤ (v : Int) ∧ (v : Int) < (o.length : Int)) = true from decide_eq_true (by omega), kT, wrap_succ (by omega), wrap64 (n := rdI o v + 1) (by omega), hd, List.foldl_cons,
        List.length_append, List.length_singleton, show decide (((u :: q).length + 1) * 8 ≤ 140737488355328) = true from decide_eq_true (by rw [List.length_cons]; omega), kT, List.cons_append]
      have ih1 := f124.l1_is k m0 hg hc hf hsrc v hv u n (j + 1)
      have hdd : (rowA g.2 v).drop (j + 1) = (rowA g.2 v).drop (j + 1) := rfl
      unfold scanS at hs ⊢
      simp only at hs ⊢
      cases h1 : decide (rdI o (arcTo g.2 a) < 0) with
      | false =>
        rw [h1, Bool.false_and, cF] at hs
        rw [cF, Bool.false_and, cF]
        exact ih1 o q (by omega) (by omega) (by omega) hs
      | true =>
        cases h2 : decide (roomA cs f a > 0) with
        | false =>
          rw [h1, h2, Bool.and_false, cF] at hs
          rw [cT, cF, Bool.and_false, cF]
          exact ih1 o q (by omega) (by omega) (by omega) hs
        | true =>
          rw [h1, h2, Bool.and_true, cT] at hs
          rw [cT, cT, Bool.and_true, cT]
          exact ih1 _ _ (by omega) (by omega) (by rw [List.length_append, List.length_singleton]; omega) hs
    · obtain rfl : j = (rowA g.2 v).length := by omega
      rw [f124.l1_eq, show decide (((rowA g.2 v).length : Int) < ((rowA g.2 v).length : Int)) = false from decide_eq_false (by omega), cF, List.drop_length,
        show decide ((0 : Int) ≤ (1 : Int) ∧ (1 : Int) ≤ ((u :: q).length : Int)) = true from decide_eq_true (by rw [List.length_cons]; omega), kT,
        show decide (((u :: q).length : Int) ≤ ((u :: q).length : Int)) = true from decide_eq_true (by omega), kT, List.foldl_nil]
      have : List.take ((↑(u :: q).length : Int).toNat - (1 : Nat)) (List.drop (1 : Nat) (u :: q)) = q := by simp
      rw [this]

theorem f124.l0_is (k : Nat) {g : Gr} (hg : graphMay g = true) {cs f : List Int} (hc : capsMay g cs = true) (hf : withinF f cs = true) {src : Int} (hsrc : 0 ≤ src ∧ src < g.1) (hk : 33 ≤ k) : ∀ (n : Nat) (o q : List Int), n ≤ k → Bf g cs f src o q →
    (∀ u, 0 ≤ u ∧ u < g.1 → 0 ≤ rdI o u → u ∉ q → ∀ a ∈ rowA g.2 u, roomA cs f a > 0 → 0 ≤ rdI o (arcTo g.2 a)) → negs o + q.length < n → negs o + q.length ≤ 8 →
    f124.l0 k n cs f o q (startsA g.2 g.1.toNat) (orderA g.2 g.1.toNat) (headsA g.2) = some (resLE (bfs g.2 cs f n o q, 0))
  | 0, o, q, _, _, _, h, _ => by omega
  | n + 1, o, [], _, hb, hold, h, _ => by
    rw [f124.l0_eq, show decide ((([] : List Int).length : Int) > 0) = false from decide_eq_false (by simp), cF]
    rfl
  | n + 1, o, v :: q, hn, hb, hold, h, h8 => by
    have hp := graphMay_parts hg
    have hs := Bs.start hb hold
    have hcnt : negs ((rowA g.2 v).foldl (scanS g.2 cs f v) (o, q)).1 + ((rowA g.2 v).foldl (scanS g.2 cs f v) (o, q)).2.length = negs o + q.length := scan_count hg hsrc hs
    have he := fold_inv (scanS g.2 cs f v) (Bs g cs f src v) (rowA g.2 v) (o, q) (fun a t s hst => hst.step hg hsrc) hs
    obtain ⟨hv1, hv2⟩ := hb.qIn v (by simp)
    have hrl := rowA_len g.2 v
    have e0 : rd (Ty.int Go.IntKind.i64) (v :: q) ((0 : Nat) : Int) = v := rfl
    have hvn : ((v.toNat : Nat) : Int) = v := by omega
    have s1 : rd (Ty.int Go.IntKind.i64) (startsA g.2 g.1.toNat) ((v.toNat : Nat) : Int) = ((orderA g.2 v.toNat).length : Int) := rd_some (t := tI) (startsA_get g.2 (by omega))
    have s2 : rd (Ty.int Go.IntKind.i64) (startsA g.2 g.1.toNat) (((v + 1).toNat : Nat) : Int) = ((orderA g.2 (v.toNat + 1)).length : Int) := by
      rw [show (v + 1).toNat = v.toNat + 1 by omega]
      exact rd_some (t := tI) (startsA_get g.2 (by omega))
    have s3 : (orderA g.2 (v.toNat + 1)).length = (orderA g.2 v.toNat).length + (rowA g.2 v).length := by rw [orderA_succ, List.length_append, hvn]
    have s4 : (orderA g.2 (v.toNat + 1)).length ≤ (orderA g.2 g.1.toNat).length := by
      obtain ⟨t, ht⟩ := orderA_front g.2 (n := v.toNat + 1) (m := g.1.toNat) (by omega)
      rw [ht, List.length_append]
      omega
    have c1 : (0 : Int) ≤ ((orderA g.2 v.toNat).length : Int) ∧ ((orderA g.2 v.toNat).length : Int) ≤ (((orderA g.2 v.toNat).length + (rowA g.2 v).length : Nat) : Int) := by omega
    have c2 : (((orderA g.2 v.toNat).length + (rowA g.2 v).length : Nat) : Int) ≤ ((orderA g.2 g.1.toNat).length : Int) := by omega
    rw [f124.l0_eq, show decide (((v :: q).length : Int) > 0) = true from decide_eq_true (by rw [List.length_cons]; omega), cT, e0, wrap64 (n := v + 1) (by omega), s1, s2, s3, Int.toNat_natCast, Int.toNat_natCast,
      show decide ((0 : Int) ≤ (0 : Int) ∧ (0 : Int) < ((v :: q).length : Int)) = true from decide_eq_true (by rw [List.length_cons]; omega), kT,
      show decide ((0 : Int) ≤ v ∧ v < ((startsA g.2 g.1.toNat).length : Int)) = true from decide_eq_true (by rw [startsA_len]; omega), kT,
      show decide ((0 : Int) ≤ v + 1 ∧ v + 1 < ((startsA g.2 g.1.toNat).length : Int)) = true from decide_eq_true (by rw [startsA_len]; omega), kT,
      chk_eq (decide_eq_true c1), chk_eq (decide_eq_true c2), show (orderA g.2 v.toNat).length + (rowA g.2 v).length - (orderA g.2 v.toNat).length = (rowA g.2 v).length by omega]
    have := f124.l1_is k n hg hc hf hsrc v.toNat (by omega) v k 0 o q (by omega) (by rw [hvn]; omega) (by simp only [List.length_cons] at h8; omega) (by rw [hvn]; exact hs)
    rw [hvn] at this
    refine this.trans ?_
    rw [List.drop_zero]
    simp only [bfs]
    simp only [List.length_cons] at h h8
    refine f124.l0_is k hg hc hf hsrc hk n _ _ (by omega) he.b (fun u hu h0 hq a ha hr => ?_) (by omega) (by omega)
    by_cases huv : u = v
    · subst huv
      exact he.done a ha (by simp) hr
    · exact he.old u hu h0 hq huv a ha hr

/-- More rounds than there are: nothing more. -/
theorem bfs_more {g : Gr} (hg : graphMay g = true) {cs f : List Int} {src : Int} (hsrc : 0 ≤ src ∧ src < g.1) : ∀ (n m : Nat) (o q : List Int), Bf g cs f src o q →
    (∀ u, 0 ≤ u ∧ u < g.1 → 0 ≤ rdI o u → u ∉ q → ∀ a ∈ rowA g.2 u, roomA cs f a > 0 → 0 ≤ rdI o (arcTo g.2 a)) → negs o + q.length < n → n ≤ m → bfs g.2 cs f m o q = bfs g.2 cs f n o q
  | 0, m, o, q, _, _, h, _ => by omega
  | n + 1, 0, o, q, _, _, h, h' => by omega
  | n + 1, m + 1, o, [], hb, hold, h, _ => rfl
  | n + 1, m + 1, o, v :: q, hb, hold, h, h' => by
    have hs := Bs.start hb hold
    have hc := scan_count hg hsrc hs
    have he := fold_inv (scanS g.2 cs f v) (Bs g cs f src v) (rowA g.2 v) (o, q) (fun a t s hst => hst.step hg hsrc) hs
    simp only [bfs]
    refine bfs_more hg hsrc n m _ _ he.b (fun u hu h0 hq a ha hr => ?_) (by simp only [List.length_cons] at h; dsimp only at hc; omega) (by omega)
    by_cases huv : u = v
    · subst huv
      exact he.done a ha (by simp) hr
    · exact he.old u hu h0 hq huv a ha hr

def levelsRes (g : Gr) (cs f : List Int) (src : Int) : List Int × Int := bif liesB g cs f && hasV g.1 src then (levelsOf g cs f src, 0) else ([], 1000)
noncomputable def S124 : Summ := summ [tG, tL, tL, tI] (List Int × Int) (fun (d : Gr × (List Int × (List Int × Int))) => chk (graphMay d.1) (some (levelsRes d.1 d.2.1 d.2.2.1 d.2.2.2))) resLE
theorem ok124 : SumOk Try.prog 124 S124 :=
  sum_k hmix f124.E (fn := Try.f124) (code := f124.code) (by kernel_rfl) (by kernel_rfl) (by kernel_rfl) (fun _ => ttOk) f124.sums f124.inl fun (d : Gr × (List Int × (List Int × Int))) x hx => by
    obtain ⟨g, cs, f, src⟩ := d
    obtain ⟨hg, hx⟩ := chk_some hx
    have hg : graphMay g = true := hg
    obtain rfl := Option.some.inj hx
    have hp := graphMay_parts hg
    refine ⟨33, (f124.eq _ g cs f src).trans ?_⟩
    show _ = some (resLE (levelsRes g cs f src))
    unfold levelsRes
    rw [hg, kT, bS]
    cases h1 : liesB g cs f with
    | false => rw [Bool.not_false, cT, Bool.false_and, cF]
    | true =>
      rw [Bool.not_true, cF, Bool.true_and]
      cases h2 : hasV g.1 src with
      | false => rw [Bool.not_false, cT, cF]
      | true =>
        have hsrc := of_decide_eq_true h2
        have h1' := h1
        simp only [liesB, Bool.and_eq_true] at h1'
        rw [Bool.not_true, cF, cT, show ([(-1 : Int)] == [(-1 : Int)]) = true by rfl, Bool.true_and, show decide ((1 : Int) ≤ g.1 ∧ g.1 ≤ 8) = true from decide_eq_true (by omega), kT, bS, List.length_replicate,
          show decide ((0 : Int) ≤ src ∧ src < ((g.1.toNat : Nat) : Int)) = true from decide_eq_true (by omega), kT]
        obtain ⟨b1, b2⟩ := levels0_ok (g := g) (cs := cs) (f := f) hsrc
        have hold : ∀ u, 0 ≤ u ∧ u < g.1 → 0 ≤ rdI (levels0 g.1.toNat src) u → u ∉ [src] → ∀ a ∈ rowA g.2 u, roomA cs f a > 0 → 0 ≤ rdI (levels0 g.1.toNat src) (arcTo g.2 a) := fun u hu h0 hq => by
          have hne : src ≠ u := fun e => hq (by simp [e])
          have : rdI (levels0 g.1.toNat src) u = -1 := by
            unfold levels0
            rw [rdI_set (by simp; omega) (by simp; omega), rdI_replicate (by omega), show (src == u) = false from beq_eq_false_iff_ne.2 hne, cF]
          omega
        refine (f124.l0_is 33 hg h1'.1 h1'.2 hsrc (by omega) 33 _ [src] (by omega) b1 hold (by simp only [List.length_singleton]; omega) (by simp only [List.length_singleton]; omega)).trans ?_
        unfold levelsOf
        rw [bfs_more hg hsrc 9 33 _ _ b1 hold (by simp only [List.length_singleton]; omega) (by omega)]
end

section
set_option maxRecDepth 100000
set_option linter.unusedVariables false
noncomputable def f100.E (k : Nat) : Env := mkEnv tt [(124, S124)] [] [(100, 6, [.kill (rg [(0, 11), (13, 24), (28, 39)]), .tidy])] [] k
noncomputable def f100.code : Go.Code := (Go.Func.body Try.f100).getD .skip
noncomputable def f100.l0 (k n : Nat) (p0 : Int) (p1 : Int) (p2 : List Int) (p3 : List Int) : Option V :=
  atPath (f100.E k) n ⟨[.undef, .undef, .undef, .undef, .undef, .undef, .undef, .undef, .undef, .undef, .undef, .undef, (.slw (3145744 : Nat)), .undef, .undef, .undef, .undef, .undef, .undef, .undef, .undef, .undef, .undef, .undef, .undef, (.slw (6553616 : Nat)), (.int .i64 (p0)), (.int .i64 (p1)), .undef, .undef, .undef, .undef, .undef, .undef, .undef, .undef, .undef, .undef, .undef, .undef], [], [((3145744 : Nat), .row (.int .i64) (p2)), ((6553616 : Nat), .row (.int .i64) (p3))]⟩ 9 0 100 [.c 1, .c 1, .c 1, .c 1, .c 0, .c 1, .c 0] [] f100.code (finK tt Try.f100)
theorem f100.l0_eq (k n : Nat) (p0 : Int) (p1 : Int) (p2 : List Int) (p3 : List Int) : f100.l0 k (n + 1) p0 p1 p2 p3 =
  bif decide (p1 < p0) then (chk (decide ((0 : Int) ≤ p1 ∧ p1 < (↑p3.length : Int))) (bif decide (rd (Ty.int Go.IntKind.i64) p3 (↑p1.toNat : Int) ≥ (0 : Int)) then (chk (decide ((p2 ++ [p1]).length * (8 : Nat) ≤ (140737488355328 : Nat))) (f100.l0 k n (p0) (Go.IntKind.i64.wrap (p1 + (1 : Int))) (p2 ++ [p1]) (p3))) else (f100.l0 k n (p0) (Go.IntKind.i64.wrap (p1 + (1 : Int))) (p2) (p3)))) else (some (.tup [(.own (.int .i64) (p2)), (.int .i64 ((0 : Int)))])) := by kernel_rfl
theorem f100.eq (k : Nat) (x0 : Int × List (Int × Int × Int)) (x1 : List Int) (x2 : List Int) (x3 : Int) : evFn (f100.E k) 9 100 Try.f100 [(.agg [(.int .i64 (x0.fst)), (.ro (.pair (.int .i64) (.pair (.int .i64) (.int .i64))) (x0.snd))]), (.ro (.int .i64) (x1)), (.ro (.int .i64) (x2)), (.int .i64 (x3))] =
  (chk (graphMay x0) (some (levelsRes x0 x1 x2 x3))).bind (fun y0 => bif y0.snd != (0 : Int) then (some (.tup [(.own (.int .i64) ([])), (.int .i64 ((1300 : Int)))])) else (f100.l0 k k ((↑y0.fst.length : Int)) ((0 : Int)) ([]) (y0.fst))) := by kernel_rfl
theorem f100.inl (k : Nat) : InlOk Try.prog (f100.E k) := inl_nil
theorem f100.sums (k : Nat) : SumsOk Try.prog (f100.E k) := (sums_cons ok124 sums_nil)
end

section
set_option linter.unusedVariables false

def reachL (o : List Int) : List Int := (upto o.length).filter fun v => decide (rdI o v ≥ 0)
def reachRes (g : Gr) (cs f : List Int) (src : Int) : List Int × Int := bif (levelsRes g cs f src).2 != 0 then ([], 1300) else (reachL (levelsRes g cs f src).1, 0)

theorem f100.l0_is (k : Nat) (o : List Int) (ho : o.length ≤ 8) : ∀ (n i : Nat) (out : List Int), i ≤ o.length → o.length < n + i → out.length ≤ i →
    f100.l0 k n (o.length : Int) (i : Int) out o = some (resLE (out ++ ((upto o.length).drop i).filter (fun v => decide (rdI o v ≥ 0)), 0))
  | 0, i, out, h, h', _ => by omega
  | n + 1, i, out, h, h', hl => by
    by_cases hlt : i < o.length
    · have hu : i < (upto o.length).length := by rw [upto_length]; exact hlt
      have hg : (upto o.length)[i] = (i : Int) := (List.getElem?_eq_some_iff.1 (upto_get hlt)).2
      have hx := List.getElem?_eq_getElem hlt
      have e : rd (Ty.int Go.IntKind.i64) o (((i : Int).toNat : Nat) : Int) = rdI o (i : Int) := rdI_nat _ _
      rw [f100.l0_eq, idx_lt' hx, cT, idx_in hx, kT, e, drop_filter _ hu, hg, wrap_succ (by omega)]
      cases hd : decide (rdI o (i : Int) ≥ 0) with
      | true =>
        rw [cT, cT, chk_eq (decide_eq_true (by rw [List.length_append, List.length_singleton]; omega)), f100.l0_is k o ho n (i + 1) _ (by omega) (by omega) (by rw [List.length_append, List.length_singleton]; omega), List.append_assoc]
        rfl
      | false => rw [cF, cF, f100.l0_is k o ho n (i + 1) _ (by omega) (by omega) (by omega)]
    · obtain rfl : i = o.length := by omega
      rw [f100.l0_eq, end_lt, cF, List.drop_eq_nil_of_le (by rw [upto_length]; omega), List.filter_nil, List.append_nil]

theorem levels_len {g : Gr} (hg : graphMay g = true) {cs f : List Int} {src : Int} (h : (levelsRes g cs f src).2 = 0) : levelsRes g cs f src = (levelsOf g cs f src, 0) ∧ (0 ≤ src ∧ src < g.1) ∧ liesB g cs f = true ∧ (levelsOf g cs f src).length = g.1.toNat := by
  unfold levelsRes at h ⊢
  cases hc : liesB g cs f && hasV g.1 src with
  | false => rw [hc, cF] at h; cases h
  | true =>
    rw [cT]
    rw [Bool.and_eq_true] at hc
    have hs := of_decide_eq_true hc.2
    exact ⟨rfl, hs, hc.1, (levels_ok hg hs).lv.len⟩

noncomputable def S100 : Summ := summ [tG, tL, tL, tI] (List Int × Int) (fun (d : Gr × (List Int × (List Int × Int))) => chk (graphMay d.1) (some (reachRes d.1 d.2.1 d.2.2.1 d.2.2.2))) resLE
theorem ok100 : SumOk Try.prog 100 S100 :=
  sum_k hmix f100.E (fn := Try.f100) (code := f100.code) (by kernel_rfl) (by kernel_rfl) (by kernel_rfl) (fun _ => ttOk) f100.sums f100.inl fun (d : Gr × (List Int × (List Int × Int))) x hx => by
    obtain ⟨g, cs, f, src⟩ := d
    obtain ⟨hg, hx⟩ := chk_some hx
    have hg : graphMay g = true := hg
    obtain rfl := Option.some.inj hx
    have hp := graphMay_parts hg
    refine ⟨9, (f100.eq _ g cs f src).trans ?_⟩
    show _ = some (resLE (reachRes g cs f src))
    unfold reachRes
    rw [hg, kT, bS]
    cases h : (levelsRes g cs f src).2 != 0 with
    | true => rw [cT, cT]
    | false =>
      obtain ⟨e, _, _, hl⟩ := levels_len hg (by simpa using h : (levelsRes g cs f src).2 = 0)
      rw [cF, cF, e]
      have := f100.l0_is 9 (levelsOf g cs f src) (by omega) 9 0 [] (by omega) (by omega) (by simp)
      refine this.trans ?_
      rw [List.nil_append, List.drop_zero]
      rfl
end

section
set_option linter.unusedVariables false

/-- Does an arc lead on from a vertex to the next level? -/
def stepsB (gl : List Lk) (cs f lv : List Int) (v a : Int) : Bool := (rdI lv (arcTo gl a) == rdI lv v + 1) && decide (roomA cs f a > 0)

/-- Arcs one behind the other. -/
def WayOk (gl : List Lk) (cs f lv : List Int) : Int → List Int → Prop
  | _, [] => True
  | v, a :: ws => a ∈ rowA gl v ∧ stepsB gl cs f lv v a = true ∧ WayOk gl cs f lv (arcTo gl a) ws

def endA (gl : List Lk) : Int → List Int → Int
  | v, [] => v
  | _, a :: ws => endA gl (arcTo gl a) ws

theorem endA_snoc (gl : List Lk) : ∀ (ws : List Int) (v a : Int), endA gl v (ws ++ [a]) = arcTo gl a
  | [], v, a => rfl
  | b :: ws, v, a => endA_snoc gl ws (arcTo gl b) a

theorem WayOk.snoc {gl : List Lk} {cs f lv : List Int} : ∀ {ws : List Int} {v a : Int}, WayOk gl cs f lv v ws → a ∈ rowA gl (endA gl v ws) → stepsB gl cs f lv (endA gl v ws) a = true → WayOk gl cs f lv v (ws ++ [a])
  | [], v, a, _, h1, h2 => ⟨h1, h2, trivial⟩
  | b :: ws, v, a, h, h1, h2 => ⟨h.1, h.2.1, WayOk.snoc h.2.2 h1 h2⟩

theorem WayOk.front {gl : List Lk} {cs f lv : List Int} : ∀ {ws : List Int} {v a : Int}, WayOk gl cs f lv v (ws ++ [a]) → WayOk gl cs f lv v ws ∧ a ∈ rowA gl (endA gl v ws) ∧ stepsB gl cs f lv (endA gl v ws) a = true
  | [], v, a, h => ⟨trivial, h.1, h.2.1⟩
  | b :: ws, v, a, h => by
    obtain ⟨h1, h2, h3⟩ := WayOk.front h.2.2
    exact ⟨⟨h.1, h.2.1, h1⟩, h2, h3⟩

theorem stepsB_lv {gl : List Lk} {cs f lv : List Int} {v a : Int} (h : stepsB gl cs f lv v a = true) : rdI lv (arcTo gl a) = rdI lv v + 1 ∧ roomA cs f a > 0 := by
  unfold stepsB at h
  rw [Bool.and_eq_true] at h
  exact ⟨eq_of_beq h.1, of_decide_eq_true h.2⟩

theorem WayOk.lv {gl : List Lk} {cs f lv : List Int} : ∀ {ws : List Int} {v : Int}, WayOk gl cs f lv v ws → rdI lv (endA gl v ws) = rdI lv v + ws.length
  | [], v, _ => by simp [endA]
  | a :: ws, v, h => by
    have h1 := stepsB_lv h.2.1
    have h2 := WayOk.lv h.2.2
    simp only [endA, List.length_cons]
    omega

/-- An arc of a way goes from a level ahead of its end. -/
theorem WayOk.below {gl : List Lk} {cs f lv : List Int} : ∀ {ws : List Int} {v : Int}, WayOk gl cs f lv v ws → ∀ a ∈ ws, arcIn gl.length a = true ∧ rdI lv v ≤ rdI lv (arcFrom gl a) ∧ rdI lv (arcFrom gl a) < rdI lv (endA gl v ws) ∧ rdI lv (arcTo gl a) = rdI lv (arcFrom gl a) + 1 ∧ roomA cs f a > 0
  | [], v, _, a, ha => by simp at ha
  | b :: ws, v, h, a, ha => by
    have h1 := stepsB_lv h.2.1
    have h0 := WayOk.lv h.2.2
    have hm := rowA_mem.1 h.1
    rcases List.mem_cons.1 ha with rfl | ha
    · simp only [endA]
      rw [hm.2]
      exact ⟨hm.1, Int.le_refl _, by omega, h1.1, h1.2⟩
    · obtain ⟨c1, c2, c3, c4, c5⟩ := WayOk.below h.2.2 a ha
      exact ⟨c1, by omega, c3, c4, c5⟩

theorem WayOk.verts {g : Gr} (hg : graphMay g = true) {cs f lv : List Int} : ∀ {ws : List Int} {v : Int}, (0 ≤ v ∧ v < g.1) → WayOk g.2 cs f lv v ws → 0 ≤ endA g.2 v ws ∧ endA g.2 v ws < g.1
  | [], v, hv, _ => hv
  | a :: ws, v, hv, h => WayOk.verts (ws := ws) (v := arcTo g.2 a) hg (arcTo_in hg (rowA_mem.1 h.1).1) h.2.2

/-- Arcs over one link. -/
theorem arc_same {gl : List Lk} {a b : Int} (h : arcL a = arcL b) : (arcFrom gl a = arcFrom gl b ∧ arcTo gl a = arcTo gl b) ∨ (arcFrom gl a = arcTo gl b ∧ arcTo gl a = arcFrom gl b) := by
  unfold arcFrom arcTo
  rw [h]
  cases backB a <;> cases backB b <;> simp only [cT, cF, and_self, true_or, or_true]

theorem WayOk.links {gl : List Lk} {cs f lv : List Int} : ∀ {ws : List Int} {v : Int}, WayOk gl cs f lv v ws → ws.Pairwise fun a b => arcL a ≠ arcL b
  | [], v, _ => .nil
  | a :: ws, v, h => by
    refine List.Pairwise.cons (fun b hb he => ?_) (WayOk.links h.2.2)
    have h1 := stepsB_lv h.2.1
    have hm := (rowA_mem.1 h.1).2
    obtain ⟨_, c2, _, c4, _⟩ := WayOk.below h.2.2 b hb
    rw [hm.symm] at h1
    rcases arc_same (gl := gl) he with ⟨e1, e2⟩ | ⟨e1, e2⟩
    · rw [e2] at c2; omega
    · rw [e1, e2] at h1; omega

/-! What a move does. -/
theorem gain_set : ∀ {gl : List Lk} {f : List Int} {i : Nat} {l : Lk} {x : Int} (d v : Int), gl[i]? = some l → f[i]? = some x →
    gainV gl (f.set i (x + d)) v = gainV gl f v + ((bif l.1 == v then d else 0) - (bif l.2.1 == v then d else 0))
  | l :: gl, x :: f, 0, l', x', d, v, h1, h2 => by
    simp only [List.getElem?_cons_zero, Option.some.injEq] at h1 h2
    subst h1 h2
    simp only [List.set_cons_zero, gainV]
    cases l.1 == v <;> cases l.2.1 == v <;> simp only [cT, cF] <;> omega
  | l :: gl, x :: f, i + 1, l', x', d, v, h1, h2 => by
    have ih := gain_set (gl := gl) (f := f) (i := i) d v (by simpa using h1) (by simpa using h2)
    simp only [List.set_cons_succ, gainV]
    rw [ih]
    omega
  | [], _, _, _, _, _, _, h1, _ => by simp at h1
  | _ :: _, [], _, _, _, _, _, _, h2 => by simp at h2

theorem lk_get {gl : List Lk} {a : Int} (ha : arcIn gl.length a = true) : gl[(arcL a).toNat]? = some (lk gl (arcL a)) := by
  have hL := arcL_lt ha
  have hi : (arcL a).toNat < gl.length := by omega
  rw [List.getElem?_eq_getElem hi]
  have := rd_some (t := tLk) (List.getElem?_eq_getElem hi)
  rw [show (((arcL a).toNat : Nat) : Int) = arcL a by omega] at this
  exact congrArg some this.symm

theorem gain_move {gl : List Lk} {f : List Int} (hl : f.length = gl.length) {a : Int} (ha : arcIn gl.length a = true) (b v : Int) :
    gainV gl (moveA f b a) v = gainV gl f v + ((bif arcFrom gl a == v then b else 0) - (bif arcTo gl a == v then b else 0)) := by
  have hL := arcL_lt ha
  have h1 := lk_get ha
  have h2 := rdI_get (f := f) (i := arcL a) (by omega)
  unfold moveA
  rw [gain_set _ v h1 h2]
  unfold arcFrom arcTo
  cases backB a <;> simp only [cT, cF] <;> cases (lk gl (arcL a)).1 == v <;> cases (lk gl (arcL a)).2.1 == v <;> simp only [cT, cF] <;> omega

/-- A move over arcs one behind the other. -/
def moves (b : Int) (f : List Int) (ws : List Int) : List Int := ws.foldl (fun f a => moveA f b a) f

theorem moves_len (b : Int) : ∀ (ws f : List Int), (moves b f ws).length = f.length
  | [], f => rfl
  | a :: ws, f => by
    have := moves_len b ws (moveA f b a)
    rw [moveA_len] at this
    exact this

theorem room_other {cs f : List Int} {b a c : Int} (hl : f.length = cs.length) (ha : arcIn cs.length a = true) (hc : arcIn cs.length c = true) (hne : arcL a ≠ arcL c) : roomA cs (moveA f b a) c = roomA cs f c := by
  have h1 := arcL_lt ha
  have h2 := arcL_lt hc
  unfold roomA
  rw [moveA_at (by omega) (by omega), show (arcL a == arcL c) = false by simpa using hne, cF]

theorem moveL_moves {cs : List Int} {b : Int} : ∀ {ws f : List Int}, f.length = cs.length → (∀ a ∈ ws, arcIn cs.length a = true ∧ b ≤ roomA cs f a) → (ws.Pairwise fun a c => arcL a ≠ arcL c) → moveL cs b f ws = some (moves b f ws)
  | [], f, _, _, _ => rfl
  | a :: ws, f, hl, hw, hp => by
    obtain ⟨h1, h2⟩ := hw a (by simp)
    cases hp with
    | cons hp1 hp2 =>
      simp only [moveL]
      rw [show decide (roomA cs f a < b) = false from decide_eq_false (by omega), cF]
      refine moveL_moves (by rw [moveA_len]; exact hl) (fun c hc => ?_) hp2
      obtain ⟨c1, c2⟩ := hw c (by simp [hc])
      exact ⟨c1, by rw [room_other hl h1 c1 (hp1 c hc)]; exact c2⟩

theorem gain_moves {gl : List Lk} {cs f0 lv : List Int} {b v : Int} : ∀ {ws f : List Int} {u : Int}, f.length = gl.length → WayOk gl cs f0 lv u ws →
    gainV gl (moves b f ws) v = gainV gl f v + ((bif u == v then b else 0) - (bif endA gl u ws == v then b else 0))
  | [], f, u, _, _ => by simp only [moves, List.foldl_nil, endA]; omega
  | a :: ws, f, u, hl, h => by
    have hm := rowA_mem.1 h.1
    have := gain_moves (b := b) (v := v) (f := moveA f b a) (by rw [moveA_len]; exact hl) h.2.2
    have e : moves b f (a :: ws) = moves b (moveA f b a) ws := rfl
    rw [e, this, gain_move hl hm.1, hm.2]
    simp only [endA]
    omega

/-- What a move leaves as it was: the links that no arc goes over. -/
theorem moves_other {b : Int} {n : Nat} : ∀ {ws f : List Int} {i : Int}, f.length = n → (∀ a ∈ ws, arcIn n a = true) → (0 ≤ i ∧ i < (n : Int)) → (∀ a ∈ ws, arcL a ≠ i) → rdI (moves b f ws) i = rdI f i
  | [], f, i, _, _, _, _ => rfl
  | a :: ws, f, i, hl, hw, hi, hn => by
    have e : moves b f (a :: ws) = moves b (moveA f b a) ws := rfl
    have h1 := arcL_lt (hw a (by simp))
    rw [e, moves_other (by rw [moveA_len]; exact hl) (fun c hc => hw c (by simp [hc])) hi (fun c hc => hn c (by simp [hc])), moveA_at (by omega) (by omega),
      show (arcL a == i) = false from beq_eq_false_iff_ne.2 (hn a (by simp)), cF]

/-! Can a vertex be come to, level by level? -/
inductive LReach (gl : List Lk) (cs f lv : List Int) (dst : Int) : Int → Prop
  | here : LReach gl cs f lv dst dst
  | step {v a : Int} : a ∈ rowA gl v → stepsB gl cs f lv v a = true → LReach gl cs f lv dst (arcTo gl a) → LReach gl cs f lv dst v

theorem LReach.append {gl : List Lk} {cs f lv : List Int} {dst v a : Int} (h : LReach gl cs f lv (arcFrom gl a) v) (ha : arcIn gl.length a = true) (hs : stepsB gl cs f lv (arcFrom gl a) a = true) (hd : arcTo gl a = dst) : LReach gl cs f lv dst v := by
  induction h with
  | here => exact .step (rowA_mem.2 ⟨ha, rfl⟩) hs (hd ▸ .here)
  | step h1 h2 _ ih => exact .step h1 h2 ih

/-- What has a level can be come to, level by level. -/
theorem levels_reach {g : Gr} {cs f : List Int} {src : Int} {lv : List Int} (h : LevelsOk g cs f src lv) (hsrc : 0 ≤ src ∧ src < g.1) : ∀ (n : Nat) (w : Int), (0 ≤ w ∧ w < g.1) → rdI lv w = (n : Int) → LReach g.2 cs f lv w src
  | 0, w, hw, hn => by
    by_cases he : w = src
    · subst he; exact .here
    · obtain ⟨v, a, _, _, _, _, h5, h6⟩ := h.back w hw (by omega) he
      omega
  | n + 1, w, hw, hn => by
    have he : w ≠ src := by
      rintro rfl
      have := h.src0
      omega
    obtain ⟨v, a, h1, h2, h3, h4, h5, h6⟩ := h.back w hw (by omega) he
    have ih := levels_reach h hsrc n v h1 (by omega)
    have hm := rowA_mem.1 h2
    rw [← hm.2] at ih h6
    refine ih.append hm.1 ?_ h3
    unfold stepsB
    rw [h3, h6, decide_eq_true h4]
    simp

theorem unreached {g : Gr} {cs f : List Int} {src dst : Int} {lv : List Int} (h : LevelsOk g cs f src lv) (hsrc : 0 ≤ src ∧ src < g.1) (hdst : 0 ≤ dst ∧ dst < g.1) (hd : ¬ LReach g.2 cs f lv dst src) : rdI lv dst < 0 := by
  by_cases h0 : rdI lv dst < 0
  · exact h0
  · exact absurd (levels_reach h hsrc (rdI lv dst).toNat dst hdst (by omega)) hd

theorem foldl_min_le : ∀ (xs : List Int) (x : Int), xs.foldl min x ≤ x ∧ (∀ y ∈ xs, xs.foldl min x ≤ y)
  | [], x => ⟨Int.le_refl _, by simp⟩
  | y :: xs, x => by
    obtain ⟨h1, h2⟩ := foldl_min_le xs (min x y)
    rw [List.foldl_cons]
    refine ⟨by omega, fun z hz => ?_⟩
    rcases List.mem_cons.1 hz with rfl | hz
    · omega
    · exact h2 z hz
theorem foldl_min_ge {m : Int} : ∀ (xs : List Int) (x : Int), m ≤ x → (∀ y ∈ xs, m ≤ y) → m ≤ xs.foldl min x
  | [], x, h, _ => h
  | y :: xs, x, h, h' => by
    rw [List.foldl_cons]
    have := h' y (by simp)
    exact foldl_min_ge xs _ (by omega) fun z hz => h' z (by simp [hz])
end

end Go.Proofs.Ytiboikgoaihccaa.R
