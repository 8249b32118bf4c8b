/-
Code: what the evaluator tells is so.
-/
import Derived.Test.YtiboikgoaihccaaR19
namespace Go.Proofs.Ytiboikgoaihccaa.R
open Go.RowKit
set_option linter.unusedVariables false

section
variable {P : Program} {E : Env} {C : Frm} {as : List (Array Value)} {R : Type} {r : R}

/-- A loop: n rounds at hand. -/
theorem loopN_sound {d f rr : Nat} {c : Code} {body : St → Kl R → Option R} {gs : List Ghost} {K : Kl R}
    (hbody : ∀ (K' : Kl R) (β : Nat → Option Loc) (σ : St) (a : Act) (w : World), Sim C β σ (a.tmps :: as) w → a.defers = [] → body σ K' = some r → c.wp P (Good C as K' r) a w) :
    ∀ (n : Nat) (β : Nat → Option Loc) (σ : St) (a : Act) (w : World), Sim C β σ (a.tmps :: as) w → a.defers = [] → loopN d f rr body gs n σ K = some r →
      ∀ (b : Frame) (k : List Item) (cs : List Frame), ∃ e a' w', Good C as K r e a' w' ∧ Arrives P (lone (b.at a (.code c :: .inLoop c :: k)) cs w) b k cs e a' w'
  | 0, β, σ, a, w, _, _, he, _, _, _ => by simp [loopN] at he
  | n + 1, β, σ, a, w, h, hd, he, b, k, cs => by
    simp only [loopN] at he
    obtain ⟨e, a₁, w₁, hq, harr⟩ := hbody _ β σ a w h hd he b (.inLoop c :: k) cs
    cases e with
    | normal =>
      obtain ⟨hd1, β1, σ1, h1, he1⟩ := hq
      obtain ⟨β2, h2⟩ := Sim.ghosts gs h1
      obtain ⟨e₂, a₂, w₂, hq₂, harr₂⟩ := loopN_sound hbody n β2 _ a₁ w₁ h2 hd1 he1 b k cs
      exact ⟨e₂, a₂, w₂, hq₂, .of_steps (Steps.trans harr (.one step_inLoop)) harr₂⟩
    | exit id => exact ⟨_, a₁, w₁, hq, .pass (x := .inLoop c) rfl (fun _ _ => .inl (by simp)) harr⟩
    | goto l => exact ⟨_, a₁, w₁, hq, .pass (x := .inLoop c) rfl (fun _ _ => .inl (by simp)) harr⟩
    | ret => exact ⟨_, a₁, w₁, hq, .pass (x := .inLoop c) rfl (fun _ _ => .inl (by simp)) harr⟩
    | panic ch => exact ⟨_, a₁, w₁, hq, .pass (x := .inLoop c) rfl (fun _ _ => .inl (by simp)) harr⟩
    | outgrown => exact ⟨_, a₁, w₁, hq, .pass (x := .inLoop c) rfl (fun _ _ => .inl (by simp)) harr⟩

/-- Regions whose order is drawn. -/
def DrawOk (P : Program) (E : Env) (C : Frm) {R : Type} (H : Handler R) (r : R) : Prop := ∀ (d f id : Nat) (ops : Array Oper) (as : List (Array Value)) (K : Kl R) (β : Nat → Option Loc) (σ : St) (a : Act) (w : World), Sim C β σ (a.tmps :: as) w → a.defers = [] → evDraw E H d f id ops σ (K .normal) = some r → (Code.region id ops true).wp P (Good C as K r) a w

theorem evCode_sound (hT : TtOk P E.tt) {H : Handler R} (hH : HOk P C H r) (hD : DrawOk P E C H r) {d f : Nat} : ∀ (c : Code) (K : Kl R) (β : Nat → Option Loc) (σ : St) (a : Act) (w : World), Sim C β σ (a.tmps :: as) w → a.defers = [] → evCode E H d f c σ K = some r → c.wp P (Good C as K r) a w := by
  intro c
  induction c with
  | skip => intro K β σ a w h hd he; exact wp_skip ⟨hd, β, σ, h, he⟩
  | region id ops draw =>
    intro K β σ a w h hd he
    simp only [evCode] at he
    cases draw with
    | true => exact hD d f id ops as K β σ a w h hd he
    | false =>
      refine wp_region (evOps_sound (d := d) hT hH (K := K .normal) (fun a' w' β' σ' hd' hs' hK' => ⟨hd', β', σ', hs', hK'⟩) ops.toList 0 _ a w β σ ?_ ?_ hd h he)
      · simp
      · simp
  | seq x y ihx ihy =>
    intro K β σ a w h hd he
    simp only [evCode] at he
    refine wp_seq (wp_mono (ihx _ β σ a w h hd he) fun e a' w' hg => ?_)
    cases e with
    | normal =>
      obtain ⟨hd1, β1, σ1, h1, he1⟩ := hg
      exact ihy K β1 σ1 a' w' h1 hd1 he1
    | _ => exact hg
  | cond x c1 c2 ih1 ih2 =>
    intro K β σ a w h hd he
    simp only [evCode] at he
    split at he
    · rename_i b hb
      have hv := h.eval x
      rw [hb] at hv
      have hv : a.eval x = .bool b := hv
      refine wp_cond hv ?_
      cases b
      · exact ih2 K β σ a w h hd he
      · exact ih1 K β σ a w h hd he
    · cases he
  | block id c ih =>
    intro K β σ a w h hd he
    simp only [evCode] at he
    refine wp_block (wp_mono (ih _ β σ a w h hd he) fun e a' w' hg => ?_)
    cases e with
    | exit id' =>
      obtain ⟨hd1, β1, σ1, h1, he1⟩ := hg
      simp only [Exit.inBlock]
      simp only [blockK] at he1
      by_cases hid : id' = id
      · subst hid
        simp only [beq_self_eq_true, cond_true] at he1
        simp only [if_true]
        exact ⟨hd1, β1, σ1, h1, he1⟩
      · have hid' : (id' == id) = false := by simpa using hid
        simp only [hid', cond_false] at he1
        simp only [hid, if_false]
        exact ⟨hd1, β1, σ1, h1, he1⟩
    | _ => exact hg
  | loop c ih =>
    intro K β σ a w h hd he b k cs
    simp only [evCode] at he
    obtain ⟨β1, h1⟩ := Sim.ghosts (E.dirs f (firstRegion c)) h
    obtain ⟨e, a', w', hq, harr⟩ := loopN_sound (P := P) (c := c) (fun K' β σ a w => ih K' β σ a w) E.fuel β1 _ a w h1 hd he b k cs
    exact ⟨e, a', w', hq, .of_steps (.one step_loop) harr⟩
  | exit id => intro K β σ a w h hd he; exact wp_exit ⟨hd, β, σ, h, he⟩
  | ret => intro K β σ a w h hd he; exact wp_ret ⟨hd, β, σ, h, he⟩
  | _ => intro K β σ a w h hd he; simp [evCode] at he

end
end Go.Proofs.Ytiboikgoaihccaa.R
