/-
Regions whose order is drawn: the theorem.
-/
import Derived.Test.YtiboikgoaihccaaR28
namespace Go.Proofs.Ytiboikgoaihccaa.R
open Go.RowKit
set_option linter.unusedVariables false
set_option linter.unusedSimpArgs false

theorem name_disj {d t t' : Nat} {n n' : Nat} {e : Nat} (ht : t ≠ t') (hn : n < 64) (hn' : n' < 64) (h : name d t ≤ e ∧ e < name d t + n) (h' : name d t' ≤ e ∧ e < name d t' + n') : False := by
  unfold name at h h'
  omega

theorem deadN_spec {m : List (Nat × Entry)} : ∀ {n k : Nat}, deadN m k n = true → ∀ e, k ≤ e → e < k + n → look m e = none
  | 0, k, _, e, h1, h2 => by omega
  | n + 1, k, h, e, h1, h2 => by
    simp only [deadN, Bool.and_eq_true, Option.isNone_iff_eq_none] at h
    by_cases hk : k = e
    · subst hk; exact h.1
    · exact deadN_spec h.2 e (by omega) (by omega)

theorem deadN_of {m : List (Nat × Entry)} : ∀ {n k : Nat}, (∀ e, k ≤ e → e < k + n → look m e = none) → deadN m k n = true
  | 0, _, _ => rfl
  | n + 1, k, h => by
    simp only [deadN, Bool.and_eq_true, Option.isNone_iff_eq_none]
    exact ⟨h k (Nat.le_refl _) (by omega), deadN_of fun e h1 h2 => h e (by omega) (by omega)⟩

section
variable {P : Program} {E : Env} {C : Frm} {β : Nat → Option Loc} {σ τ : St} {a : Act} {as : List (Array Value)} {w : World} {o : Oper} {R : Type} {r : R} {ops : Array Oper}

theorem Gd_wanted {b : Bool} (h : Sim C β σ (a.tmps :: as) w) (hg : Gd ops o σ b) : Region.wanted o (yielded ops a.tmps) = b := by
  unfold Gd at hg
  cases hgd : o.guard with
  | none => rw [hgd] at hg; simp only [] at hg; subst hg; simp [Region.wanted, hgd]
  | some p =>
    obtain ⟨j, want⟩ := p
    rw [hgd] at hg
    obtain ⟨t, h1, ⟨c, h2, rfl⟩ | ⟨h2, rfl⟩⟩ := hg
    rotate_left
    · have hv := h.get t
      rw [h2] at hv
      obtain ⟨ys, hx, _⟩ := hv
      have hv : a.tmps.getD t undef = .tuple ys := hx
      have hy : yielded ops a.tmps j = none := by
        simp only [yielded, h1, Option.bind_some]
        rw [Array.getD_eq_getD_getElem?] at hv
        cases hx : a.tmps[t]? with
        | none => rfl
        | some x => rw [hx] at hv; simp at hv; subst hv; rfl
      simp [Region.wanted, hgd, hy]
    have hv := h.get t
    rw [h2] at hv
    have hv : a.tmps.getD t undef = .bool c := hv
    have hy : yielded ops a.tmps j = some c := by simp [yielded, h1, getD_bool hv]
    cases c <;> cases want <;> simp [Region.wanted, hgd, hy]

theorem Gd_congr {b : Bool} (h : ∀ t, t ∈ o.looksAt ops → σ.get t = τ.get t) (hg : Gd ops o σ b) : Gd ops o τ b := by
  unfold Gd at hg ⊢
  cases hgd : o.guard with
  | none => rw [hgd] at hg; exact hg
  | some p =>
    obtain ⟨j, want⟩ := p
    rw [hgd] at hg
    obtain ⟨t, h1, h2⟩ := hg
    have e : σ.get t = τ.get t := by
      refine h t ?_
      unfold Oper.looksAt
      rw [hgd]
      simp [h1]
    rw [e] at h2
    exact ⟨t, h1, h2⟩

theorem eval_congr {x : Operand} (hx : x ∈ o.op.operands.toList) (h : ∀ t, t ∈ o.looksAt ops → σ.get t = τ.get t) : σ.eval x = τ.eval x := by
  cases x with
  | tmp t =>
    refine h t ?_
    unfold Oper.looksAt
    exact List.mem_append_left _ (List.mem_filterMap.2 ⟨.tmp t, hx, rfl⟩)
  | _ => rfl

theorem draw_seg (hT : TtOk P E.tt) (hS : SumsOk P E) {H : Handler R} (hH : HOk P C H r) {d : Nat} {K : St → Option R} {Q : Exit → Act → World → Prop} {M : List Nat} (hM : DrawSpec ops M)
    (hQ : ∀ (a' : Act) w' β' σ', a'.defers = [] → Sim C β' σ' (a'.tmps :: as) w' → K σ' = some r → Q .normal a' w') :
    ∀ (n p : Nat) (l : List Oper), l.length = n → (∀ i : Nat, l[i]? = ops[p + i]?) → p + l.length = ops.size → ∀ (σ : St) (β : Nat → Option Loc) (a : Act) (w : World) (listed : Array Bool) (fuel : Nat),
      Sim C β σ (a.tmps :: as) w → a.defers = [] → evDs E H d ops l σ K = some r → listed.size = ops.size → (∀ i, i < ops.size → listed.getD i false = decide (i < p)) → left listed ops.size ≤ fuel → wpAny P .any ops Q fuel listed a w := by
  intro n
  induction n using Nat.strongRecOn with
  | _ n ihn =>
  intro p l hln hl hpl σ β a w listed fuel hsim hd he hsz hlist hfuel
  obtain ⟨rs, hrl, hpath, htail⟩ := evDs_split l σ he
  -- facts on the operations of this piece
  have hop : ∀ (i : Nat) x, rs[i]? = some x → ∃ o, ops[p + i]? = some o ∧ l[i]? = some o ∧ isBar o = false ∧ x.dst = o.dst ∧ x.nm = name d (o.dst.getD 4095) ∧ StepR E ops x.nm o (mix (fun k => decide (k < i)) rs σ) x.v x.es := by
    intro i x hx
    obtain ⟨o, h1, h2, h3, h4, h5⟩ := hpath i x hx
    exact ⟨o, by rw [← hl]; exact h1, h1, h2, h3, h4, h5⟩
  have hdst : ∀ (i j : Nat) x y, rs[i]? = some x → rs[j]? = some y → i ≠ j → ∀ t, x.dst = some t → y.dst ≠ some t := by
    have key : ∀ (i j : Nat) x y, rs[i]? = some x → rs[j]? = some y → i < j → ∀ t, x.dst = some t → y.dst ≠ some t := by
      intro i j x y hx hy hij t ht hy'
      obtain ⟨o, ho, _, _, e1, _⟩ := hop i x hx
      obtain ⟨o', ho', _, _, e2, _⟩ := hop j y hy
      have := hM.pair (p + i) (p + j) o o' ho ho' (by omega)
      unfold okPair at this
      rw [← e1, ht, ← e2, hy'] at this
      simp at this
    intro i j x y hx hy hij t ht hy'
    rcases Nat.lt_or_gt_of_ne hij with h | h
    · exact key i j x y hx hy h t ht hy'
    · exact key j i y x hy hx h t hy' ht
  have hes : ∀ (i : Nat) x, rs[i]? = some x → x.es.length < 64 ∧ (∀ e, Names x e → ∃ t, x.dst = some t ∧ t < 4095 ∧ x.nm = name d t) := by
    intro i x hx
    obtain ⟨o, ho, _, _, e1, e2, hs⟩ := hop i x hx
    rcases hs with ⟨_, _, _, _, h4, h5⟩ | ⟨_, _, h3⟩
    · refine ⟨h4, fun e hn => ?_⟩
      rcases h5 with h5 | h5
      · obtain ⟨t, ht⟩ := Option.isSome_iff_exists.1 h5
        exact ⟨t, by rw [e1, ht], (hM.at_ _ o ho).dst t ht, by rw [e2, ht]; rfl⟩
      · have := hn.2; have := hn.1; rw [h5] at *; simp at *; omega
    · refine ⟨by rw [h3]; simp, fun e hn => ?_⟩
      have := hn.2; have := hn.1; rw [h3] at *; simp at *; omega
  have hnames : ∀ (i j : Nat) x y, rs[i]? = some x → rs[j]? = some y → i ≠ j → ∀ e, Names x e → ¬ Names y e := by
    intro i j x y hx hy hij e hn hn'
    obtain ⟨h1, h2⟩ := hes i x hx
    obtain ⟨h3, h4⟩ := hes j y hy
    obtain ⟨t, ht, _, hnm⟩ := h2 e hn
    obtain ⟨t', ht', _, hnm'⟩ := h4 e hn'
    have : t ≠ t' := fun h => hdst i j x y hx hy hij t ht (by rw [ht', h])
    unfold Names at hn hn'
    rw [hnm] at hn
    rw [hnm'] at hn'
    exact name_disj this h1 h3 hn hn'
  have hdead : ∀ (i : Nat) x, rs[i]? = some x → ∀ e, Names x e → look (mix (fun k => decide (k < i)) rs σ).mem e = none := by
    intro i x hx e hn
    obtain ⟨o, ho, _, _, e1, e2, hs⟩ := hop i x hx
    rcases hs with ⟨_, _, _, h3, _, _⟩ | ⟨_, _, h3⟩
    · exact deadN_spec h3 e hn.1 hn.2
    · have := hn.2; have := hn.1; rw [h3] at *; simp at *; omega
  have hdead0 : ∀ (i : Nat) x, rs[i]? = some x → ∀ e, Names x e → look σ.mem e = none := by
    intro i x hx e hn
    cases hE : look σ.mem e with
    | none => rfl
    | some E1 =>
      have h1 := mix_alive e rs (fun _ => false) (fun k => decide (k < i)) σ σ (fun h => h) (fun _ h => by cases h) (by rw [mix_none _ _ _ (fun _ _ => rfl), hE]; rfl)
      rw [hdead i x hx e hn] at h1
      cases h1
  -- within the piece
  have inner : ∀ (fuel : Nat) (listed : Array Bool) (β : Nat → Option Loc) (a : Act) (w : World), listed.size = ops.size → (∀ i, i < ops.size → listed.getD i false = true → i < p + rs.length) → (∀ i, i < p → listed.getD i false = true) → Clo ops listed →
      Sim C β (mix (fun i => listed.getD (p + i) false) rs σ) (a.tmps :: as) w → a.defers = [] → left listed ops.size ≤ fuel → wpAny P .any ops Q fuel listed a w := by
    intro fuel
    induction fuel with
    | zero =>
      intro listed β a w hsz hin hpre hclo hsim hd hfuel
      have hall := left_zero (n := ops.size) (Nat.le_zero.1 hfuel)
      have hall' : ∀ i, i < ops.size → listed.getD i false = true := by
        intro i hi
        have := hall i hi
        have hlt : i < listed.size := by rw [hsz]; exact hi
        simpa [hlt] using this
      have hready : Region.ready .any ops listed = [] := by
        cases hr : Region.ready .any ops listed with
        | nil => rfl
        | cons j js =>
          have : j ∈ Region.ready .any ops listed := by rw [hr]; simp
          obtain ⟨h1, o, ho, _⟩ := mem_ready.1 this
          rw [hall j (Array.getElem?_eq_some_iff.1 ho).1] at h1
          cases h1
      refine ⟨hready, ?_⟩
      rcases htail with ⟨h1, h2⟩ | ⟨o, ho, h2, _⟩
      · refine hQ a w β _ hd hsim ?_
        rw [mix_congr rs _ (fun _ => true) σ fun i hi => hall' (p + i) (by omega)]
        exact h2
      · have hq : rs.length < l.length := (List.getElem?_eq_some_iff.1 ho).1
        have := hin (p + rs.length) (by omega) (hall' _ (by omega))
        omega
    | succ fuel ih =>
      intro listed β a w hsz hin hpre hclo hsim hd hfuel
      have hun : ∀ i, i < ops.size → (listed.getD i true = false ↔ listed.getD i false = false) := by
        intro i hi
        have hlt : i < listed.size := by rw [hsz]; exact hi
        simp [hlt]
      refine ⟨fun hready => ?_, fun j hj => ?_⟩
      · -- nothing is left
        have hall' : ∀ i, i < ops.size → listed.getD i false = true := by
          intro i
          induction i using Nat.strongRecOn with
          | _ i ihi =>
            intro hi
            cases hx : listed.getD i false with
            | true => rfl
            | false =>
              have ho : ops[i]? = some ops[i] := Array.getElem?_eq_getElem hi
              have : i ∈ Region.ready .any ops listed := mem_ready.2 ⟨(hun i hi).2 hx, _, ho, fun e he hb => by
                have := (hM.at_ i _ ho).back e he hb
                exact ihi e.on this (by omega)⟩
              rw [hready] at this
              cases this
        rcases htail with ⟨h1, h2⟩ | ⟨o, ho, h2, _⟩
        · refine hQ a w β _ hd hsim ?_
          rw [mix_congr rs _ (fun _ => true) σ fun i hi => hall' (p + i) (by omega)]
          exact h2
        · have hq : rs.length < l.length := (List.getElem?_eq_some_iff.1 ho).1
          have := hin (p + rs.length) (by omega) (hall' _ (by omega))
          omega
      · obtain ⟨hjun, o, ho, hdeps⟩ := mem_ready.1 hj
        have hjs : j < ops.size := (Array.getElem?_eq_some_iff.1 ho).1
        have hjf : listed.getD j false = false := (hun j hjs).1 hjun
        have hpj : p ≤ j := by
          rcases Nat.lt_or_ge j p with h | h
          · rw [hpre j h] at hjf; cases hjf
          · exact h
        have hrch : ∀ i, Nat.testBit (M.getD j 0) i = true → listed.getD i false = true := rch_listed hM hclo j o ho hdeps
        -- behind it
        have hset1 : ∀ i, i < ops.size → (listed.setIfInBounds j true).getD i false = (listed.getD i false || i == j) := by
          intro i hi
          by_cases hij : i = j
          · subst hij
            have : i < listed.size := by rw [hsz]; exact hi
            simp [this]
          · rw [getD_set_ne false (Ne.symm hij)]
            simp [hij]
        have hclo' : Clo ops (listed.setIfInBounds j true) := by
          intro i o' ho' hi e he hb
          have his : i < ops.size := (Array.getElem?_eq_some_iff.1 ho').1
          rw [hset1 i his, Bool.or_eq_true, beq_iff_eq] at hi
          refine getD_set_true ?_
          rcases hi with hi | rfl
          · exact hclo i o' ho' hi e he hb
          · rw [ho] at ho'
            injection ho' with ho'
            subst ho'
            exact hdeps e he hb
        have hleft' : left (listed.setIfInBounds j true) ops.size ≤ fuel := by
          have := left_set hjun ops.size
          rw [if_pos hjs] at this
          omega
        have hwp : wpOp P ops Q j = fun K a w => if Region.wanted o (yielded ops a.tmps) then o.wp P a w K Q ∨ (o.asks P a w ∧ LetsOut Q) else K (a.put o.dst undef) w := by
          funext K a w
          simp only [wpOp, ho]
        rw [hwp]
        simp only []
        rcases Nat.lt_or_ge j (p + rs.length) with hjm | hjm
        · -- one of the piece
          obtain ⟨i, rfl⟩ : ∃ i, j = p + i := ⟨j - p, by omega⟩
          have hi : i < rs.length := by omega
          have hx : rs[i]? = some rs[i] := List.getElem?_eq_getElem hi
          obtain ⟨o', ho', _, hbar, e1, e2, hstep⟩ := hop i _ hx
          have : o' = o := by rw [ho] at ho'; injection ho' with ho'; exact ho'.symm
          subst this
          have hselj : listed.getD (p + i) false = false := hjf
          -- slots
          have hslot : ∀ t, t ∈ o'.looksAt ops → (mix (fun k => decide (k < i)) rs σ).get t = (mix (fun k => listed.getD (p + k) false) rs σ).get t := by
            intro t ht
            refine mix_get_congr t rs _ _ σ σ rfl rfl fun k y hy hyd => ?_
            obtain ⟨o2, ho2, _, _, f1, _⟩ := hop k y hy
            rcases Nat.lt_trichotomy k i with h | h | h
            · have h3 := hM.pair (p + k) (p + i) o2 o' ho2 ho (by omega)
              unfold okPair at h3
              rw [← f1, hyd] at h3
              simp only [Bool.and_eq_true, Bool.or_eq_true, Bool.not_eq_true'] at h3
              have h4 : Nat.testBit (M.getD (p + i) 0) (p + k) = true := by
                rcases h3.1.1.2 with h5 | h5
                · rw [List.contains_eq_mem, decide_eq_false_iff_not] at h5; exact absurd ht h5
                · exact h5
              rw [hrch _ h4]
              simp [h]
            · subst h
              rw [hselj]
              simp
            · have h3 := hM.pair (p + i) (p + k) o' o2 ho ho2 (by omega)
              unfold okPair at h3
              rw [← f1, hyd] at h3
              simp only [Bool.and_eq_true, Bool.or_eq_true, Bool.not_eq_true'] at h3
              have h4 : Nat.testBit (M.getD (p + k) 0) (p + i) = true := by
                rcases h3.1.2 with h5 | h5
                · rw [List.contains_eq_mem, decide_eq_false_iff_not] at h5; exact absurd ht h5
                · exact h5
              cases hk : listed.getD (p + k) false with
              | false => exact decide_eq_false (by omega)
              | true =>
                have := rch_of_listed hM hclo ho2 hk h4
                rw [hselj] at this
                cases this
          have hnext : ∀ (a' : Act) w' β', a'.defers = [] → Sim C β' ((mix (fun k => listed.getD (p + k) false) rs σ).apR rs[i]) (a'.tmps :: as) w' → wpAny P .any ops Q fuel (listed.setIfInBounds (p + i) true) a' w' := by
            intro a' w' β' hd' hs'
            refine ih _ β' a' w' (by simpa using hsz) (fun k hk hk2 => ?_) (fun k hk => getD_set_true (hpre k hk)) hclo' ?_ hd' hleft'
            · rw [hset1 k hk, Bool.or_eq_true, beq_iff_eq] at hk2
              rcases hk2 with hk2 | hk2
              · exact hin k hk hk2
              · omega
            · have hmore := mix_more i rs (fun k => listed.getD (p + k) false) σ _ hx hselj fun k y hy hki => ⟨fun t ht => hdst i k _ y hx hy (Ne.symm hki) t ht, fun e hn => hnames i k _ y hx hy (Ne.symm hki) e hn⟩
              have := hmore.sim hs'
              rw [mix_congr rs _ (fun k => (listed.setIfInBounds (p + i) true).getD (p + k) false) σ fun k hk => by
                rw [hset1 (p + k) (by omega)]
                congr 1
                by_cases hki : k = i
                · subst hki; simp
                · rw [beq_eq_false_iff_ne.2 (show p + k ≠ p + i by omega), beq_eq_false_iff_ne.2 hki]] at this
              exact this
          rcases hstep with ⟨hg, hal, hopd, hdn, h64, hsome⟩ | ⟨hg, hv, hev⟩
          · have hg' := Gd_congr hslot hg
            rw [Gd_wanted hsim hg']
            simp only [if_true]
            refine .inl ?_
            -- what it looks at is the same
            have hagr : Agr (mix (fun k => decide (k < i)) rs σ) (mix (fun k => listed.getD (p + k) false) rs σ) o'.op := by
              intro x hxo
              have hev := eval_congr (ops := ops) hxo hslot
              refine ⟨hev, fun e he => ?_⟩
              have halive : (look (mix (fun k => decide (k < i)) rs σ).mem e).isSome = true := by
                have := List.all_eq_true.1 hal x hxo
                exact List.all_eq_true.1 this e he
              have halive' : (look (mix (fun k => listed.getD (p + k) false) rs σ).mem e).isSome = true := by
                rw [hev] at he
                exact refs3_alive (hsim.eval x) he
              refine mix_look_congr e rs _ _ σ σ rfl fun k y hy hyn => ?_
              by_cases hki : k < i
              · simp only [hki, decide_true]
                cases hk : listed.getD (p + k) false with
                | true => rfl
                | false =>
                  have h1 := mix_look_congr e rs (fun k => listed.getD (p + k) false) (fun _ => false) σ σ rfl fun k2 y2 hy2 hyn2 => by
                    by_cases hkk : k2 = k
                    · subst hkk; exact hk
                    · exact absurd hyn (hnames k2 k y2 y hy2 hy hkk e hyn2)
                  rw [mix_none _ _ _ (fun _ _ => rfl), hdead0 k y hy e hyn] at h1
                  rw [h1] at halive'
                  cases halive'
              · simp only [hki, decide_false]
                have h1 := mix_alive e rs (fun m => decide (m < i)) (fun m => decide (m < k)) σ σ (fun h => h) (fun m hm => by simp only [decide_eq_true_eq] at hm ⊢; omega) halive
                rw [hdead k y hy e hyn] at h1
                cases h1
            have hopd' := hopd.congr hagr
            have hdn' : deadN (mix (fun k => listed.getD (p + k) false) rs σ).mem rs[i].nm rs[i].es.length = true := by
              refine deadN_of fun e h1 h2 => ?_
              have h3 := mix_look_congr e rs (fun k => listed.getD (p + k) false) (fun _ => false) σ σ rfl fun k2 y2 hy2 hyn2 => by
                by_cases hkk : k2 = i
                · subst hkk; exact hselj
                · exact absurd ⟨h1, h2⟩ (hnames k2 i y2 _ hy2 hx hkk e hyn2)
              rw [mix_none _ _ _ (fun _ _ => rfl), hdead0 i _ hx e ⟨h1, h2⟩] at h3
              exact h3
            refine opDR_sound hT hS hsim hd hdn' hopd' fun a' w' β' hd' hs' => hnext a' w' β' hd' ?_
            unfold St.apR
            rw [e1]
            exact hs'
          · have hg' := Gd_congr hslot hg
            rw [Gd_wanted hsim hg']
            simp only [Bool.false_eq_true, if_false]
            refine hnext _ _ β (by rw [put_defers]; exact hd) ?_
            unfold St.apR St.apD
            rw [hv, hev, e1]
            exact hsim.put (a := a) o'.dst (v := .tup []) (x := undef) ⟨#[], rfl, trivial⟩
        · -- all of the piece has come
          rcases htail with ⟨h1, h2⟩ | ⟨ob, hob, hbar, hg, hev⟩
          · omega
          · have hq : rs.length < l.length := (List.getElem?_eq_some_iff.1 hob).1
            have hobs : ops[p + rs.length]? = some ob := by rw [← hl]; exact hob
            have hjq : j = p + rs.length := by
              rcases Nat.lt_or_eq_of_le hjm with h | h
              · have h3 := hM.pair (p + rs.length) j ob o hobs ho h
                unfold okPair at h3
                rw [hbar] at h3
                simp only [Bool.true_or, Bool.not_true, Bool.false_or, Bool.and_eq_true] at h3
                have := hin _ (by omega) (hrch _ h3.2)
                omega
              · exact h.symm
            subst hjq
            have : o = ob := by rw [ho] at hobs; injection hobs
            subst this
            have hfull : ∀ i, i < rs.length → listed.getD (p + i) false = true := by
              intro i hi
              obtain ⟨o2, ho2, _, _, _⟩ := hop i _ (List.getElem?_eq_getElem hi)
              have h3 := hM.pair (p + i) (p + rs.length) o2 o ho2 ho (by omega)
              unfold okPair at h3
              rw [hbar] at h3
              simp only [Bool.or_true, Bool.not_true, Bool.false_or, Bool.and_eq_true] at h3
              exact hrch _ h3.2
            rw [mix_congr rs _ (fun _ => true) σ fun i hi => hfull i hi] at hsim
            rw [Gd_wanted hsim hg]
            simp only [if_true]
            refine .inl (evOp_sound hT hH hsim hd (fun a' w' β' σ' hd' hs' hK' => ?_) hev)
            refine ihn (l.drop (rs.length + 1)).length (by rw [List.length_drop]; omega) (p + rs.length + 1) (l.drop (rs.length + 1)) rfl (fun i => ?_) (by rw [List.length_drop]; omega) σ' β' a' w' _ fuel hs' hd' hK' (by simpa using hsz) (fun i hi => ?_) hleft'
            · rw [List.getElem?_drop, hl]; congr 1; omega
            · rw [hset1 i hi]
              rcases Nat.lt_trichotomy i (p + rs.length) with h | h | h
              · have : listed.getD i false = true := by
                  rcases Nat.lt_or_ge i p with h4 | h4
                  · exact hpre i h4
                  · have := hfull (i - p) (by omega)
                    rwa [show p + (i - p) = i from by omega] at this
                rw [this]
                simp; omega
              · subst h; simp
              · have : listed.getD i false = false := by
                  cases h5 : listed.getD i false with
                  | false => rfl
                  | true => have := hin i hi h5; omega
                rw [this, Bool.false_or]
                have h6 : (i == p + rs.length) = false := by simp; omega
                rw [h6]
                exact (decide_eq_false (by omega)).symm
  refine inner fuel listed β a w hsz (fun i hi h => ?_) (fun i hi => ?_) ?_ ?_ hd hfuel
  · rw [hlist i hi] at h
    simp only [decide_eq_true_eq] at h
    omega
  · rw [hlist i (by omega)]; simpa using hi
  · intro j o ho hj e he hb
    have hjs : j < ops.size := (Array.getElem?_eq_some_iff.1 ho).1
    rw [hlist j hjs] at hj
    simp only [decide_eq_true_eq] at hj
    have := (hM.at_ j o ho).back e he hb
    rw [hlist e.on (by omega)]
    simp; omega
  · rw [mix_none]
    · exact hsim
    · intro i hi
      rw [hlist (p + i) (by omega)]
      simp

theorem left_le (listed : Array Bool) : ∀ n, left listed n ≤ n
  | 0 => Nat.le_refl _
  | n + 1 => by
    have := left_le listed n
    simp only [left]
    split <;> omega

theorem drawOk (hm : P.follows .mixedOrders = true) (hT : TtOk P E.tt) (hS : SumsOk P E) (H : Handler R) (hH : HOk P C H r) : DrawOk P E C H r := by
  intro d f id ops as K β σ a w h hd he
  unfold evDraw at he
  obtain ⟨hok, he⟩ := cond_some he
  obtain ⟨β1, h1⟩ := Sim.ghosts (E.dirs f id) h
  have h2 := (h1.grows (Grows.drew w)).1
  refine wp_region_any hm ?_
  refine draw_seg hT hS hH (okDraw_spec hok) (K := K .normal) (fun a' w' β' σ' hd' hs' hK' => ⟨hd', β', σ', hs', hK'⟩) ops.toList.length 0 ops.toList rfl (fun i => by simp) (by simp) _ β1 a _ _ _ h2 hd he (by simp) (fun i hi => ?_) (left_le _ _)
  simp [hi]

end
end Go.Proofs.Ytiboikgoaihccaa.R
