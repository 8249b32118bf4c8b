/-
append, further.
-/
import Derived.Test.YtiboikgoaihccaaR12
namespace Go.Proofs.Ytiboikgoaihccaa.R
open Go.RowKit
set_option linter.unusedVariables false

theorem V.mapC_of {g : V → V} {v : V} (h : v.isFn = false) : v.mapC g = g v := by cases v <;> first | rfl | simp [V.isFn] at h

theorem V.mapC_mapC {g1 g2 : V → V} (hf : ∀ v, v.isFn = false → (g1 v).isFn = false) (v : V) : (v.mapC g1).mapC g2 = v.mapC (g2 ∘ g1) := by
  by_cases hv : v.isFn = true
  · cases v <;> simp only [V.isFn, Bool.false_eq_true] at hv
    simp [V.mapC, List.map_map]
  · have hv : v.isFn = false := by simpa using hv
    rw [V.mapC_of hv, V.mapC_of (hf v hv), V.mapC_of hv]
    rfl

/-- Turned twice. -/
theorem V.map1_map1 {g1 g2 : V → V} (hf : ∀ v, v.isFn = false → (g1 v).isFn = false) (ha : ∀ v, v.isAgg = false → (g1 v).isAgg = false) (ht : ∀ v, v.isTup = false → (g1 v).isTup = false) (v : V) :
    (v.map1 g1).map1 g2 = v.map1 (g2 ∘ g1) := by
  have hC : ∀ v : V, (v.mapC g1).mapC g2 = v.mapC (g2 ∘ g1) := V.mapC_mapC hf
  have hAC : ∀ v : V, v.isAgg = false → (v.mapC g1).isAgg = false := by
    intro v hv
    cases v <;> first | exact ha _ hv | rfl
  have hA : ∀ v : V, (v.mapA g1).mapA g2 = v.mapA (g2 ∘ g1) := by
    intro v
    by_cases hv : v.isAgg = true
    · cases v <;> simp only [V.isAgg, Bool.false_eq_true] at hv
      simp only [V.mapA, List.map_map]
      congr 1
      refine List.map_congr_left fun v _ => hC v
    · have hv : v.isAgg = false := by simpa using hv
      have h1 : ∀ g : V → V, v.mapA g = v.mapC g := by intro g; cases v <;> first | rfl | simp [V.isAgg] at hv
      have h2 : ∀ u : V, u.isAgg = false → u.mapA g2 = u.mapC g2 := by intro u hu; cases u <;> first | rfl | simp [V.isAgg] at hu
      rw [h1, h1, h2 _ (hAC v hv), hC]
  have hAT : ∀ v : V, v.isTup = false → (v.mapA g1).isTup = false := by
    intro v hv
    cases v <;> first | exact ht _ hv | rfl
  by_cases hv : v.isTup = true
  · cases v <;> simp only [V.isTup, Bool.false_eq_true] at hv
    simp only [V.map1, List.map_map]
    congr 1
    refine List.map_congr_left fun v _ => hA v
  · have hv : v.isTup = false := by simpa using hv
    have h1 : ∀ g : V → V, v.map1 g = v.mapA g := by intro g; cases v <;> first | rfl | simp [V.isTup] at hv
    have h2 : ∀ u : V, u.isTup = false → u.map1 g2 = u.mapA g2 := by intro u hu; cases u <;> first | rfl | simp [V.isTup] at hu
    rw [h1, h1, h2 _ (hAT v hv), hA]

theorem killV_isFn (e : Nat) (v : V) (h : v.isFn = false) : (killV e v).isFn = false := by
  cases v <;> first | exact h | rfl | (simp only [killV]; split <;> rfl) | (simp only [killV]; cases (_ == e) <;> rfl)
theorem killV_isAgg (e : Nat) (v : V) (h : v.isAgg = false) : (killV e v).isAgg = false := by
  cases v <;> first | exact h | rfl | (simp only [killV]; cases (_ == e) <;> rfl)
theorem killV_isTup (e : Nat) (v : V) (h : v.isTup = false) : (killV e v).isTup = false := by
  cases v <;> first | exact h | rfl | (simp only [killV]; cases (_ == e) <;> rfl)

theorem killV_kill (e nm : Nat) (v : V) : (v.map1 (killV e)).map1 (killV nm) = v.map1 (killV nm ∘ killV e) :=
  V.map1_map1 (killV_isFn e) (killV_isAgg e) (killV_isTup e) v

theorem killV_killC (e nm : Nat) (v : V) : (v.mapC (killV e)).mapC (killV nm) = v.mapC (killV nm ∘ killV e) := V.mapC_mapC (killV_isFn e) v

/-- What refers to either dies. -/
def kill2 (e nm : Nat) : V → V := bif e == nm then killV nm else killV nm ∘ killV e

theorem kill2_undef (e nm : Nat) : kill2 e nm .undef = .undef := by unfold kill2; cases e == nm <;> rfl

theorem kill2_other {e nm : Nat} {v : V} (h : refOf v ≠ some e) (h2 : refOf v ≠ some nm) : kill2 e nm v = v := by
  unfold kill2
  cases e == nm
  · simp only [cond_false, Function.comp, killV_other h, killV_other h2]
  · simp only [cond_true, killV_other h2]

theorem killV_self {e : Nat} {v : V} (h : refOf v = some e) : killV e v = .undef := by
  cases v <;> simp only [refOf, Option.some.injEq, reduceCtorEq] at h <;> subst h <;> simp [killV]

theorem kill2_self {e nm : Nat} {v : V} (h : refOf v = some e ∨ refOf v = some nm) : kill2 e nm v = .undef := by
  unfold kill2
  by_cases hee : e = nm
  · subst hee
    simp only [beq_self_eq_true, cond_true]
    rcases h with h | h <;> exact killV_self h
  · have : (e == nm) = false := by simpa using hee
    simp only [this, cond_false, Function.comp]
    by_cases h1 : refOf v = some e
    · rw [killV_self h1]; rfl
    · rcases h with h | h
      · exact absurd h h1
      · rw [killV_other h1]; exact killV_self h

theorem repl_fr (σ : St) (e nm : Nat) (x : Entry) : σ.repl e nm x = { fr := σ.fr.map (V.map1 (kill2 e nm)), outs := σ.outs.map (List.map (V.map1 (kill2 e nm))), mem := (σ.repl e nm x).mem } := by
  unfold St.repl kill2
  cases e == nm
  · simp only [cond_false, St.kill, St.map1, List.map_map]
    congr 1
    · refine List.map_congr_left fun v _ => killV_kill e nm v
    · refine List.map_congr_left fun fr _ => ?_
      simp only [List.map_map, Function.comp]
      refine List.map_congr_left fun v _ => killV_kill e nm v
  · rfl

theorem repl_look (σ : St) (e nm : Nat) (x : Entry) (e' : Nat) : look (σ.repl e nm x).mem e' = if e' = nm then some x else if e' = e then none else (look σ.mem e').map (Entry.map1 (kill2 e nm)) := by
  unfold St.repl kill2
  by_cases hee : e = nm
  · subst hee
    simp only [beq_self_eq_true, cond_true]
    show look ((e, x) :: (σ.kill e).mem) e' = _
    rw [look_cons]
    by_cases h : e' = e
    · subst h; simp
    · rw [if_neg (Ne.symm h), if_neg h, if_neg h, look_kill, if_neg h]
  · have hb : (e == nm) = false := by simpa using hee
    simp only [hb, cond_false]
    show look ((nm, x) :: ((σ.kill e).kill nm).mem) e' = _
    rw [look_cons]
    by_cases h : e' = nm
    · subst h; simp
    · rw [if_neg (Ne.symm h), if_neg h, look_kill, if_neg h, look_kill]
      by_cases h2 : e' = e
      · simp [h2]
      · simp only [h2, if_false, Option.map_map]
        congr 1
        funext E
        cases E with
        | row t l => rfl
        | box cs =>
          simp only [Function.comp, Entry.map1, List.map_map]
          congr 1
          refine List.map_congr_left fun v _ => killV_killC e nm v

section
variable {P : Program} {E : Env} {C : Frm} {β : Nat → Option Loc} {σ σ' : St} {a : Act} {as : List (Array Value)} {w : World} {o : Oper} {nm : Nat} {ty : TypeId} {bs : List Bool} {v : V}

/-- A row grows within its block. -/
theorem Sim.inPlace (h : Sim C β σ as w) {en : Nat} {t : Ty} {l0 : List t.den} {L : Loc} {off n : Nat} {cs : Array Value} {el : TypeId} {xs : List t.den} {news : List Value} (hl : look σ.mem en = some (.row t l0)) (ho : off + n ≤ l0.length) (hL : β en = some L)
    (hblk : w.heap[L.g]? = some (.cells cs el (0, 0))) (hsz : cs.size = L.cells) (hel : ∀ (i : Nat) x, l0[i]? = some x → ∃ zs, DRel (Free C σ.mem β w) w t x zs ∧ ∀ (j : Nat) z, zs[j]? = some z → cs[L.base + i * t.size + j]? = some z)
    (hfit : L.base + (off + (n + xs.length)) * t.size ≤ L.cells) (hnl : news.length = xs.length * t.size)
    (hnew : ∀ (i : Nat) x, xs[i]? = some x → ∃ zs, DRel (Free C σ.mem β w) w t x zs ∧ ∀ (j : Nat) z, zs[j]? = some z → news[i * t.size + j]? = some z) :
    Sim C (setβ β nm (some ⟨L.g, L.base + off * t.size, L.cells⟩)) (σ.repl en nm (.row t ((l0.drop off).take n ++ xs))) as
      (w.setRow L.g (cs.toList.take (L.base + off * t.size + n * t.size) ++ news ++ cs.toList.drop (L.base + off * t.size + n * t.size + news.length)).toArray) := by
  have hlen : ((l0.drop off).take n).length = n := by simp; omega
  have hpos : L.base + off * t.size + n * t.size + news.length ≤ cs.size := by
    rw [hsz, hnl]
    rw [Nat.add_mul, Nat.add_mul] at hfit
    omega
  have hes : (look σ.mem en).isSome = true := by rw [hl]; rfl
  have hhp : ∀ g, g ≠ L.g → (w.setRow L.g (cs.toList.take (L.base + off * t.size + n * t.size) ++ news ++ cs.toList.drop (L.base + off * t.size + n * t.size + news.length)).toArray).heap[g]? = w.heap[g]? := fun g hg => setRow_other w L.g g _ hg
  have hne : ∀ g, Free C σ.mem β w g → g ≠ L.g := by
    rintro g hf rfl
    exact hf.2 (.inl ⟨en, L, hes, hL, rfl⟩)
  have hs : ∀ e', (look (σ.repl en nm (.row t ((l0.drop off).take n ++ xs))).mem e').isSome = true → e' = nm ∨ (e' ≠ nm ∧ e' ≠ en ∧ (look σ.mem e').isSome = true) := by
    intro e' h1
    rw [repl_look] at h1
    by_cases h2 : e' = nm
    · exact .inl h2
    · rw [if_neg h2] at h1
      by_cases h3 : e' = en
      · simp [h3] at h1
      · rw [if_neg h3] at h1
        exact .inr ⟨h2, h3, by simpa using h1⟩
  rw [repl_fr]
  have key : (∀ gg, Free C σ.mem β w gg → Free C (σ.repl en nm (.row t ((l0.drop off).take n ++ xs))).mem (setβ β nm (some ⟨L.g, L.base + off * t.size, L.cells⟩)) (w.setRow L.g (cs.toList.take (L.base + off * t.size + n * t.size) ++ news ++ cs.toList.drop (L.base + off * t.size + n * t.size + news.length)).toArray) gg) →
      ∀ v x, V0 (cx C β σ w) v x → V0 ⟨(σ.repl en nm (.row t ((l0.drop off).take n ++ xs))).mem, setβ β nm (some ⟨L.g, L.base + off * t.size, L.cells⟩), Free C (σ.repl en nm (.row t ((l0.drop off).take n ++ xs))).mem (setβ β nm (some ⟨L.g, L.base + off * t.size, L.cells⟩)) (w.setRow L.g (cs.toList.take (L.base + off * t.size + n * t.size) ++ news ++ cs.toList.drop (L.base + off * t.size + n * t.size + news.length)).toArray), w.setRow L.g (cs.toList.take (L.base + off * t.size + n * t.size) ++ news ++ cs.toList.drop (L.base + off * t.size + n * t.size + news.length)).toArray⟩ (kill2 en nm v) x := by
    intro hF v x hv
    by_cases hr : refOf v = some en ∨ refOf v = some nm
    · rw [kill2_self hr]; exact trivial
    · have hr1 : refOf v ≠ some en := fun hh => hr (.inl hh)
      have hr2 : refOf v ≠ some nm := fun hh => hr (.inr hh)
      rw [kill2_other hr1 hr2]
      refine V0.other (S := cx C β σ w) (g := kill2 en nm) hF (fun g hg => hhp g (hne g hg)) hv fun e' he' => ⟨?_, ?_⟩
      · show look (σ.repl en nm _).mem e' = _
        rw [repl_look, if_neg (fun he => hr2 (by rw [he', he])), if_neg (fun he => hr1 (by rw [he', he]))]
      · show setβ β nm _ e' = β e'
        simp only [setβ]
        rw [if_neg (fun he => hr2 (by rw [he', he]))]
  refine h.mapW (kill2 en nm) _ _ (fun e' => if e' = nm then en else e') ?_ (by simp) (kill2_undef en nm) ?_ ?_ key ?_
  · refine ⟨h.frm.os, h.frm.tape, h.frm.output, by simpa using h.frm.size, fun g h1 h2 => ?_⟩
    rw [hhp g ?_]
    · exact h.frm.block g h1 h2
    · rintro rfl
      rcases h.own en L hes hL with h3 | h3
      · omega
      · exact h2 h3
  · intro e' h1
    rcases hs e' h1 with rfl | ⟨h2, h3, h4⟩
    · simp only [if_true]
      refine ⟨hes, fun L' hL' => ⟨L, hL, ?_⟩⟩
      simp only [setβ, if_true, Option.some.injEq] at hL'
      subst hL'
      rfl
    · simp only [h2, if_false]
      exact ⟨h4, fun L' hL' => ⟨L', by simpa [setβ, h2] using hL', rfl⟩⟩
  · intro e1 e2 h1 h2 h3
    rcases hs e1 h1 with rfl | ⟨h4, h5, h6⟩ <;> rcases hs e2 h2 with h7 | ⟨h7, h8, h9⟩
    · exact h7.symm
    · simp only [if_true, h7, if_false] at h3; exact absurd h3.symm h8
    · subst h7; simp only [if_true, h4, if_false] at h3; exact absurd h3 h5
    · simpa [h4, h7] using h3
  · intro hF e' E' hE
    rw [repl_look] at hE
    by_cases h2 : e' = nm
    · subst h2
      rw [if_pos rfl] at hE
      injection hE with hE
      subst hE
      refine .inr ⟨⟨L.g, L.base + off * t.size, L.cells⟩, _, el, by simp [setβ], setRow_heap w L.g cs _ el (0, 0) hblk, ?_, ?_, fun i x hx => ?_⟩
      · rw [← hsz]
        simp only [List.size_toArray, List.length_append, List.length_take, List.length_drop, Array.length_toList]
        omega
      · show L.base + off * t.size + ((l0.drop off).take n ++ xs).length * t.size ≤ L.cells
        rw [List.length_append, hlen]
        rw [Nat.add_mul] at hfit ⊢
        rw [Nat.add_mul] at hfit
        omega
      · show ∃ zs, DRel _ _ t x zs ∧ ∀ (j : Nat) z, zs[j]? = some z → (List.toArray _)[L.base + off * t.size + i * t.size + j]? = some z
        by_cases hi : i < n
        · rw [List.getElem?_append_left (by omega), List.getElem?_take_of_lt hi, List.getElem?_drop] at hx
          obtain ⟨zs, hz, hcell⟩ := hel (off + i) x hx
          refine ⟨zs, hz.mono hF (fun g hg => hhp g (hne g hg)), fun j z hj => ?_⟩
          have hjl : j < t.size := by
            have := (List.getElem?_eq_some_iff.1 hj).1
            rw [hz.length] at this; exact this
          rw [List.getElem?_toArray, splice_get cs.toList news (L.base + off * t.size + n * t.size) (by simpa using hpos)]
          have := Nat.mul_le_mul_right t.size (show i + 1 ≤ n from hi)
          rw [Nat.add_mul] at this
          rw [if_pos (by omega)]
          have hc := hcell j z hj
          rw [← hc]
          simp only [Array.getElem?_toList]
          congr 1
          rw [Nat.add_mul]; omega
        · rw [List.getElem?_append_right (by omega), hlen] at hx
          obtain ⟨zs, hz, hcell⟩ := hnew (i - n) x hx
          refine ⟨zs, hz.mono hF (fun g hg => hhp g (hne g hg)), fun j z hj => ?_⟩
          have hjl : j < t.size := by
            have := (List.getElem?_eq_some_iff.1 hj).1
            rw [hz.length] at this; exact this
          have hxl : i - n < xs.length := (List.getElem?_eq_some_iff.1 hx).1
          rw [List.getElem?_toArray, splice_get cs.toList news (L.base + off * t.size + n * t.size) (by simpa using hpos)]
          have h3 : i * t.size = n * t.size + (i - n) * t.size := by rw [← Nat.add_mul]; congr 1; omega
          have h4 := Nat.mul_le_mul_right t.size (show i - n + 1 ≤ xs.length from hxl)
          rw [Nat.add_mul] at h4
          rw [if_neg (by omega), if_pos (by omega)]
          rw [← hcell j z hj]
          congr 1
          omega
    · rw [if_neg h2] at hE
      by_cases h3 : e' = en
      · simp [h3] at hE
      · rw [if_neg h3] at hE
        cases hl' : look σ.mem e' with
        | none => simp [hl'] at hE
        | some E1 =>
          simp only [hl', Option.map_some, Option.some.injEq] at hE
          subst hE
          refine (h.ent e' E1 hl').map (S := cx C β σ w) (e := e') (key hF) hF (fun g hg => hhp g (hne g hg)) (fun L' hL' => hhp _ fun hg => h3 ?_) (by simp [setβ, h2])
          exact h.inj e' en L' L (by rw [hl']; rfl) hes hL' hL hg

end
end Go.Proofs.Ytiboikgoaihccaa.R
