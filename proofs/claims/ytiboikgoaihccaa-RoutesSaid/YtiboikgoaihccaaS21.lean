/-
Graphs that are alike.
-/
import Derived.Test.YtiboikgoaihccaaS20
import Derived.Test.YtiboikgoaihccaaS10
namespace Go.Proofs.Ytiboikgoaihccaa.R
set_option linter.unusedVariables false

def sameG (a b : Gr) : Bool := a.1 == b.1 && sameB a.2 b.2
theorem sameG_self (a : Gr) : sameG a a = true := by
  unfold sameG
  rw [beq_self_eq_true, sameB_iff.2 rfl]
  rfl

theorem lk_ne (x y : Lk) : (!(x.1 == y.1 && (x.2.1 == y.2.1 && (x.2.2 == y.2.2 && true)))) = (x != y) := by
  obtain ⟨a, b, c⟩ := x
  obtain ⟨a', b', c'⟩ := y
  rw [Bool.and_true]
  rfl

theorem f43.same (p q : Int) (a b : List Lk) (h : a.length = b.length) (hl : a.length < 4611686018427387904) (k : Nat) : f43.l0 k (a.length + 1) 0 p a q b = some (.bool (sameB a b)) := by
  have hz : (a.zip b).length = a.length := by simp [h]
  have := loop_any0 (fun n i => f43.l0 k n (i : Nat) p a q b) (a.zip b) (fun x => x.1 != x.2) (some (.bool false)) (some (.bool true)) (fun n i x hx => by
    obtain ⟨ha, hb⟩ := zip_get hx
    have := idx_lt ha
    rw [f43.l0_eq, idx_lt' ha, idx_in ha, idx_in hb, rd_some (t := tLk) ha, rd_some (t := tLk) hb, wrap_succ (by omega), cT, kT, kT, lk_ne]) (fun n => by rw [hz, f43.l0_eq, end_lt, cF]) (n := a.length + 1) (by omega)
  refine this.trans ?_
  rw [any_zip_ne h]
  unfold sameB
  cases a == b <;> rfl

noncomputable def S43 : Summ := summ [tG, tG] Bool (fun (d : Gr × Gr) => chk (decide (d.1.2.length < 4611686018427387904)) (some (sameG d.1 d.2))) .bool
theorem ok43 : SumOk Try.prog 43 S43 :=
  sum_k hmix f43.E (fn := Try.f43) (code := f43.code) (by kernel_rfl) (by kernel_rfl) (by kernel_rfl) (fun _ => ttOk) f43.sums f43.inl fun (d : Gr × Gr) x hx => by
    obtain ⟨⟨p, a⟩, q, b⟩ := d
    obtain ⟨hb, hx⟩ := chk_some hx
    obtain rfl := Option.some.inj hx
    refine ⟨a.length + 1, (f43.eq _ (p, a) (q, b)).trans ?_⟩
    unfold sameG
    simp only []
    cases hpq : p == q with
    | false =>
      rw [show (p != q) = true by simp only [bne, hpq]; rfl, cT]
      rfl
    | true =>
      rw [show (p != q) = false by simp only [bne, hpq]; rfl, cF, Bool.true_and]
      by_cases h : a.length = b.length
      · rw [show ((a.length : Int) != (b.length : Int)) = false by simp [h], cF]
        exact f43.same p q a b h (by simpa using hb) _
      · rw [show ((a.length : Int) != (b.length : Int)) = true by simp; omega]
        rw [sameB_ne fun e => h (by rw [e]), cT]

end Go.Proofs.Ytiboikgoaihccaa.R
