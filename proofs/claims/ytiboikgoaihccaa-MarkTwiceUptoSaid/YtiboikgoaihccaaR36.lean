/-
Loops in plain Lean: over the elements of a list, with a state.
-/
import Derived.Test.YtiboikgoaihccaaR35
namespace Go.Proofs.Ytiboikgoaihccaa.R
set_option linter.unusedVariables false

theorem wrap64 {n : Int} (h : -9223372036854775808 ≤ n ∧ n ≤ 9223372036854775807) : Go.IntKind.i64.wrap n = n := by
  rw [IntKind.wrap_i64]; omega

theorem wrap_succ {i : Nat} (h : i < 4611686018427387904) : Go.IntKind.i64.wrap ((i : Int) + 1) = ((i + 1 : Nat) : Int) := by
  rw [wrap64 (by omega)]; omega

/-- What is known of a function of pure data, by its evaluation with so many rounds as one likes. -/
theorem sum_k {P : Program} (hm : P.follows .mixedOrders = true) {f : FuncId} {fn : Func} {code : Code} {ts : List Ty} {rt : Type} {g : Dens ts → Option rt} {res : rt → V} {c : Nat} (E : Nat → Env) (hf : P.funcs[f]? = some fn) (hn : (fn.name == "runtime.NumGoroutine") = false) (hb : fn.body = some code)
    (hT : ∀ k, TtOk P (E k).tt) (hS : ∀ k, SumsOk P (E k)) (hI : ∀ k, InlOk P (E k)) (h : ∀ d x, g d = some x → ∃ k, evFn (E k) c f fn (encL ts d) = some (res x)) : SumOk P f (summ ts rt g res) :=
  sum_of hm hf hn hb fun d x hx => by
    obtain ⟨k, hk⟩ := h d x hx
    exact ⟨E k, c, hT k, hS k, hI k, hk⟩

/-! Equations that simp is to write down: else the kernel would look for them by itself, through the evaluator. -/
theorem cT {α : Type} {x y : α} : (bif true then x else y) = x := Eq.trans rfl rfl
theorem cF {α : Type} {x y : α} : (bif false then x else y) = y := Eq.trans rfl rfl
theorem kT {R : Type} {x : Option R} : chk true x = x := Eq.trans rfl rfl
theorem kF {R : Type} {x : Option R} : chk false x = none := Eq.trans rfl rfl
theorem bS {α β : Type} {x : α} {f : α → Option β} : (some x).bind f = f x := Eq.trans rfl rfl
theorem bN {α β : Type} {f : α → Option β} : (none : Option α).bind f = none := Eq.trans rfl rfl

theorem dec_lt (a b : Int) : decide (a < b) = !decide (a ≥ b) := by
  by_cases h : a < b
  · rw [decide_eq_true h, decide_eq_false (by omega)]; rfl
  · rw [decide_eq_false h, decide_eq_true (by omega)]; rfl

section
variable {α β σ R : Type}

theorem idx_lt {l : List α} {i : Nat} {x : α} (h : l[i]? = some x) : i < l.length := (List.getElem?_eq_some_iff.1 h).1
theorem idx_lt' {l : List α} {i : Nat} {x : α} (h : l[i]? = some x) : decide ((i : Int) < (l.length : Int)) = true := by
  have := idx_lt h
  simp; omega
theorem idx_in {l : List α} {i : Nat} {x : α} (h : l[i]? = some x) : decide (0 ≤ (i : Int) ∧ (i : Int) < (l.length : Int)) = true := by
  have := idx_lt h
  simp; omega
theorem end_lt (l : List α) : decide (((l.length : Nat) : Int) < (l.length : Int)) = false := by simp

theorem rd_some {t : Ty} {l : List t.den} {i : Nat} {x : t.den} (h : l[i]? = some x) : rd t l (i : Int) = x := by
  unfold rd
  rw [Int.toNat_natCast, List.getD_eq_getElem?_getD, h]
  rfl

/-- A loop with a state; K: what follows the round. -/
def goL (f : α → Nat → σ → (σ → Option R) → Option R) (fin : σ → Option R) : List α → Nat → σ → Option R
  | [], _, s => fin s
  | x :: xs, i, s => f x i s (goL f fin xs (i + 1))

theorem loop_go (L : Nat → Nat → σ → Option R) (f : α → Nat → σ → (σ → Option R) → Option R) (fin : σ → Option R) (xs : List α)
    (h1 : ∀ n i x s, xs[i]? = some x → L (n + 1) i s = f x i s (L n (i + 1))) (h2 : ∀ n s, L (n + 1) xs.length s = fin s)
    (hf : ∀ x i s K K', (∀ s, K s = K' s) → f x i s K = f x i s K') :
    ∀ n i s, i ≤ xs.length → xs.length < n + i → L n i s = goL f fin (xs.drop i) i s
  | 0, i, s, hi, h => by omega
  | n + 1, i, s, hi, h => by
    by_cases hlt : i < xs.length
    · rw [h1 n i _ s (List.getElem?_eq_getElem hlt), List.drop_eq_getElem_cons hlt]
      exact hf _ _ _ _ _ fun s => loop_go L f fin xs h1 h2 hf n (i + 1) s (by omega) (by omega)
    · obtain rfl : i = xs.length := by omega
      rw [h2, List.drop_length]
      rfl

theorem loop_any (L : Nat → Nat → Option R) (xs : List α) (p : α → Bool) (yes no : Option R)
    (h1 : ∀ n i x, xs[i]? = some x → L (n + 1) i = bif p x then yes else L n (i + 1)) (h2 : ∀ n, L (n + 1) xs.length = no) :
    ∀ n i, i ≤ xs.length → xs.length < n + i → L n i = bif (xs.drop i).any p then yes else no
  | 0, i, hi, h => by omega
  | n + 1, i, hi, h => by
    by_cases hlt : i < xs.length
    · rw [h1 n i _ (List.getElem?_eq_getElem hlt), List.drop_eq_getElem_cons hlt, List.any_cons, loop_any L xs p yes no h1 h2 n (i + 1) (by omega) (by omega)]
      cases p xs[i] <;> simp
    · obtain rfl : i = xs.length := by omega
      rw [h2, List.drop_length]
      rfl

theorem loop_any0 (L : Nat → Nat → Option R) (xs : List α) (p : α → Bool) (yes no : Option R)
    (h1 : ∀ n i x, xs[i]? = some x → L (n + 1) i = bif p x then yes else L n (i + 1)) (h2 : ∀ n, L (n + 1) xs.length = no) {n : Nat} (h : xs.length < n) :
    L n 0 = bif xs.any p then yes else no := by
  have := loop_any L xs p yes no h1 h2 n 0 (Nat.zero_le _) (by omega)
  simpa using this

/-- A loop of rounds that turn a state. -/
def foldI (g : σ → Nat → α → σ) : List α → Nat → σ → σ
  | [], _, s => s
  | x :: xs, i, s => foldI g xs (i + 1) (g s i x)

theorem loop_fold (L : Nat → Nat → σ → Option R) (xs : List α) (g : σ → Nat → α → σ) (fin : σ → Option R) (inv : Nat → σ → Prop)
    (h1 : ∀ n i x s, xs[i]? = some x → inv i s → L (n + 1) i s = L n (i + 1) (g s i x)) (hi : ∀ i x s, xs[i]? = some x → inv i s → inv (i + 1) (g s i x)) (h2 : ∀ n s, inv xs.length s → L (n + 1) xs.length s = fin s) :
    ∀ n i s, i ≤ xs.length → xs.length < n + i → inv i s → L n i s = fin (foldI g (xs.drop i) i s)
  | 0, i, s, hi', h, _ => by omega
  | n + 1, i, s, hi', h, hs => by
    by_cases hlt : i < xs.length
    · have hx := List.getElem?_eq_getElem hlt
      rw [h1 n i _ s hx hs, List.drop_eq_getElem_cons hlt, loop_fold L xs g fin inv h1 hi h2 n (i + 1) _ (by omega) (by omega) (hi i _ s hx hs)]
      rfl
    · obtain rfl : i = xs.length := by omega
      rw [h2 n s hs, List.drop_length]
      rfl

/-- Are two rows alike? -/
def sameB [BEq α] (a b : List α) : Bool := a == b

theorem sameB_iff [BEq α] [LawfulBEq α] {a b : List α} : sameB a b = true ↔ a = b := by simp [sameB]
theorem sameB_ne [BEq α] [LawfulBEq α] {a b : List α} (h : a ≠ b) : sameB a b = false := by simpa [sameB] using h

theorem any_zip_ne [BEq α] [LawfulBEq α] : ∀ {a b : List α}, a.length = b.length → ((a.zip b).any fun x => x.1 != x.2) = !(a == b)
  | [], [], _ => rfl
  | x :: a, y :: b, h => by
    simp only [List.length_cons, Nat.add_right_cancel_iff] at h
    rw [List.zip_cons_cons, List.any_cons, any_zip_ne h]
    simp [bne, Bool.not_and]
  | [], _ :: _, h => by simp at h
  | _ :: _, [], h => by simp at h

theorem zip_get {a : List α} {b : List β} {i : Nat} {x : α × β} (h : (a.zip b)[i]? = some x) : a[i]? = some x.1 ∧ b[i]? = some x.2 := by
  rw [List.getElem?_zip_eq_some] at h
  exact h
end

end Go.Proofs.Ytiboikgoaihccaa.R
