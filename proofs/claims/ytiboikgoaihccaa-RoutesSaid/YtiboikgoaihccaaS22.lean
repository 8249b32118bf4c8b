/-
slices.Sort and slices.Compact at []int: what they do to a row of the call's own.
-/
import Derived.Test.YtiboikgoaihccaaProg
import Derived.Test.YtiboikgoaihccaaS20
import Derived.Shelf.Sort.Plain
import Derived.Shelf.Slices.CompactI
namespace Go.Proofs.Ytiboikgoaihccaa.R
open Go.Shelf Go.RowKit
set_option linter.unusedVariables false

def laysSort_ren : Go.Shelf.Ren := ⟨fun | 189 => 107 | 125 => 130 | 257 => 129 | 128 => 154 | 129 => 155 | 294 => 145 | 295 => 146 | 296 => 147 | 297 => 148 | 298 => 149 | 299 => 150 | 216 => 151 | 300 => 152 | 301 => 153 | 328 => 164 | 329 => 165 | 330 => 166 | 331 => 167 | 332 => 168 | 215 => 169 | 343 => 174 | n => n, fun | 28 => 22 | 3 => 3 | 46 => 111 | 0 => 0 | 51 => 154 | 53 => 156 | 4 => 4 | 183 => 148 | 182 => 147 | 131 => 116 | 5 => 5 | 9 => 9 | 218 => 165 | 222 => 169 | 228 => 176 | 229 => 54 | n => n, fun | n => n⟩
theorem laysSort : Go.Proofs.Lays.n189 Try.prog laysSort_ren :=
  { mixed := by kernel_rfl,
    f125 := Try.func130.trans (congrArg some (by kernel_rfl)),
    f128 := Try.func154.trans (congrArg some (by kernel_rfl)),
    f129 := Try.func155.trans (congrArg some (by kernel_rfl)),
    f189 := Try.func107.trans (congrArg some (by kernel_rfl)),
    f215 := Try.func169.trans (congrArg some (by kernel_rfl)),
    f216 := Try.func151.trans (congrArg some (by kernel_rfl)),
    f257 := Try.func129.trans (congrArg some (by kernel_rfl)),
    f294 := Try.func145.trans (congrArg some (by kernel_rfl)),
    f295 := Try.func146.trans (congrArg some (by kernel_rfl)),
    f296 := Try.func147.trans (congrArg some (by kernel_rfl)),
    f297 := Try.func148.trans (congrArg some (by kernel_rfl)),
    f298 := Try.func149.trans (congrArg some (by kernel_rfl)),
    f299 := Try.func150.trans (congrArg some (by kernel_rfl)),
    f300 := Try.func152.trans (congrArg some (by kernel_rfl)),
    f301 := Try.func153.trans (congrArg some (by kernel_rfl)),
    f328 := Try.func164.trans (congrArg some (by kernel_rfl)),
    f329 := Try.func165.trans (congrArg some (by kernel_rfl)),
    f330 := Try.func166.trans (congrArg some (by kernel_rfl)),
    f331 := Try.func167.trans (congrArg some (by kernel_rfl)),
    f332 := Try.func168.trans (congrArg some (by kernel_rfl)),
    f343 := Try.func174.trans (congrArg some (by kernel_rfl)),
    t0 := Try.underlying0,
    a0 := Try.isAgg0,
    z0 := Try.sizeOf0,
    v0 := Try.zeroValue0,
    t3 := Try.underlying3,
    a3 := Try.isAgg3,
    z3 := Try.sizeOf3,
    v3 := Try.zeroValue3,
    t4 := Try.underlying4,
    a4 := Try.isAgg4,
    z4 := Try.sizeOf4,
    v4 := Try.zeroValue4,
    t5 := Try.underlying5,
    a5 := Try.isAgg5,
    z5 := Try.sizeOf5,
    v5 := Try.zeroValue5,
    t9 := Try.underlying9,
    a9 := Try.isAgg9,
    z9 := Try.sizeOf9,
    v9 := Try.zeroValue9,
    t28 := Try.underlying22,
    a28 := Try.isAgg22,
    z28 := Try.sizeOf22,
    v28 := Try.zeroValue22,
    t46 := Try.underlying111,
    a46 := Try.isAgg111,
    z46 := Try.sizeOf111,
    v46 := Try.zeroValue111,
    t51 := Try.underlying154,
    a51 := Try.isAgg154,
    z51 := Try.sizeOf154,
    v51 := Try.zeroValue154,
    t53 := Try.underlying156,
    a53 := Try.isAgg156,
    z53 := Try.sizeOf156,
    v53 := Try.zeroValue156,
    t131 := Try.underlying116,
    a131 := Try.isAgg116,
    z131 := Try.sizeOf116,
    v131 := Try.zeroValue116,
    t182 := Try.underlying147,
    a182 := Try.isAgg147,
    z182 := Try.sizeOf147,
    v182 := Try.zeroValue147,
    t183 := Try.underlying148,
    a183 := Try.isAgg148,
    z183 := Try.sizeOf148,
    v183 := Try.zeroValue148,
    t218 := Try.underlying165,
    a218 := Try.isAgg165,
    z218 := Try.sizeOf165,
    v218 := Try.zeroValue165,
    t222 := Try.underlying169,
    a222 := Try.isAgg169,
    z222 := Try.sizeOf169,
    v222 := Try.zeroValue169,
    t228 := Try.underlying176,
    a228 := Try.isAgg176,
    z228 := Try.sizeOf176,
    v228 := Try.zeroValue176,
    t229 := Try.underlying54,
    a229 := Try.isAgg54,
    z229 := Try.sizeOf54,
    v229 := Try.zeroValue54 }
def laysCompact_ren : Go.Shelf.Ren := ⟨fun | 20 => 108 | n => n, fun | 22 => 22 | 3 => 3 | 4 => 4 | 0 => 0 | n => n, fun | n => n⟩
theorem laysCompact : Go.Proofs.Lays2.n20 Try.prog laysCompact_ren :=
  { mixed := by kernel_rfl,
    f20 := Try.func108.trans (congrArg some (by kernel_rfl)),
    t0 := Try.underlying0,
    a0 := Try.isAgg0,
    z0 := Try.sizeOf0,
    v0 := Try.zeroValue0,
    t3 := Try.underlying3,
    a3 := Try.isAgg3,
    z3 := Try.sizeOf3,
    v3 := Try.zeroValue3,
    t4 := Try.underlying4,
    a4 := Try.isAgg4,
    z4 := Try.sizeOf4,
    v4 := Try.zeroValue4,
    t22 := Try.underlying22,
    a22 := Try.isAgg22,
    z22 := Try.sizeOf22,
    v22 := Try.zeroValue22,
    i3 := by kernel_rfl }


/-- Numbers in rising order. -/
def sortI (l : List Int) : List Int := l.mergeSort fun x y => decide (x ≤ y)

/-- A row of numbers in memory, in the library's words. -/
theorem holds_row {w : World} {L : Loc} {l : List Int} {cs : Array Value} {el : TypeId} (hh : w.heap[L.g]? = some (.cells cs el (0, 0)))
    (hel : ∀ (i : Nat) (y : Int), l[i]? = some y → ∃ zs, DRel (fun _ => False) w tI y zs ∧ ∀ (j : Nat) z, zs[j]? = some z → cs[L.base + i * tI.size + j]? = some z) : Go.Sort.Holds (Value.int .i64) w L.g L.base l.toArray := by
  intro j hj
  have hj' : j < l.length := by simpa using hj
  obtain ⟨zs, h1, h2⟩ := hel j l[j] (List.getElem?_eq_getElem hj')
  have h1 : zs = [.int .i64 l[j]] := h1
  subst h1
  have h3 := h2 0 _ rfl
  have h4 : L.base + j * tI.size + 0 = L.base + j := by show L.base + j * 1 + 0 = L.base + j; omega
  rw [h4] at h3
  refine ⟨?_, ?_⟩
  · unfold World.cell?
    simp only [hh]
    show cs[L.base + j]? = _
    rw [h3]
    congr 2
    rw [getElem!_pos l.toArray j (by simpa using hj')]
    simp
  · unfold World.frozen?
    simp only [hh]
    simp

theorem put_row {w : World} {L : Loc} {l l' : List Int} {cs : Array Value} {el : TypeId} {n : Nat} {os : Array Obj} (hh : w.heap[L.g]? = some (.cells cs el (0, 0))) (hsz : cs.size = L.cells) (hb : L.base + l.length * tI.size ≤ L.cells) (hl : l'.length = l.length) :
    ∃ cs', Grows { w with heap := w.heap.setIfInBounds L.g (.cells cs' el (0, 0)) } (Go.Sort.grow (Go.Sort.putRow (Value.int .i64) (Go.Sort.ahead w n) L.g L.base l'.toArray) os) ∧ cs'.size = cs.size ∧
      ∀ (i : Nat) (y : Int), l'[i]? = some y → ∃ zs, DRel (fun _ => False) w tI y zs ∧ ∀ (j : Nat) z, zs[j]? = some z → cs'[L.base + i * tI.size + j]? = some z := by
  have hlt : L.g < w.heap.size := (Array.getElem?_eq_some_iff.1 hh).1
  have e : (Go.Sort.putRow (Value.int .i64) (Go.Sort.ahead w n) L.g L.base l'.toArray).heap = w.heap.setIfInBounds L.g (.cells (Go.Sort.putCells (Value.int .i64) L.base l'.toArray cs) el (0, 0)) := by
    show w.heap.modify L.g _ = _
    apply Array.ext_getElem?
    intro k
    rw [Array.getElem?_modify, Array.getElem?_setIfInBounds]
    by_cases hk : L.g = k
    · subst hk
      rw [if_pos rfl, if_pos rfl, if_pos hlt]
      show w.heap[L.g]?.map _ = _
      rw [hh]
      rfl
    · simp [hk]
  refine ⟨Go.Sort.putCells (Value.int .i64) L.base l'.toArray cs, ⟨rfl, rfl, rfl, ?_, fun g hg => ?_⟩, by simp [Go.Sort.putCells], fun i y hy => ⟨[.int .i64 y], rfl, fun j z hz => ?_⟩⟩
  · show (w.heap.setIfInBounds L.g _).size ≤ ((Go.Sort.putRow (Value.int .i64) (Go.Sort.ahead w n) L.g L.base l'.toArray).heap ++ os).size
    rw [e, Array.size_append]
    omega
  · show ((Go.Sort.putRow (Value.int .i64) (Go.Sort.ahead w n) L.g L.base l'.toArray).heap ++ os)[g]? = (w.heap.setIfInBounds L.g _)[g]?
    rw [e, Array.getElem?_append_left hg]
  · cases j with
    | succ j => simp at hz
    | zero =>
      simp only [List.getElem?_cons_zero, Option.some.injEq] at hz
      subst hz
      have hi := (List.getElem?_eq_some_iff.1 hy).1
      have h1 : tI.size = 1 := rfl
      rw [h1] at hb ⊢
      have h2 : L.base + i * 1 + 0 = L.base + i := by omega
      rw [h2]
      have h3 : L.base + i < cs.size := by omega
      have h4 : (Go.Sort.putCells (Value.int .i64) L.base l'.toArray cs)[L.base + i]? = some (if L.base ≤ L.base + i ∧ L.base + i < L.base + l'.toArray.size then Value.int .i64 l'.toArray[L.base + i - L.base]! else cs[L.base + i]) := by
        unfold Go.Sort.putCells
        rw [Array.getElem?_mapIdx, Array.getElem?_eq_getElem h3]
        rfl
      rw [h4, if_pos ⟨by omega, by simp; omega⟩]
      congr 2
      have h5 : L.base + i - L.base = i := by omega
      rw [h5, getElem!_pos l'.toArray i (by simpa using hi)]
      have := (List.getElem?_eq_some_iff.1 hy).2
      simpa using this

def mSort : Mut := { t := tI, f := fun (l : List Int) => chk (decide (0 < l.length ∧ l.length < 4611686018427387904)) (some (sortI l)), n := none }
noncomputable def S107 : Summ := { rt := Unit, call := fun _ => none, res := fun _ => .tup [], alt := some mSort }

theorem ok107 : SumOk Try.prog 107 S107 := by
  refine ⟨⟨Try.f107, (Go.Func.body Try.f107).getD .skip, by kernel_rfl, by kernel_rfl, by kernel_rfl⟩, ?_, fun m hm => ?_⟩
  · intro B w vs xs x hB hv hx
    cases hx
  obtain rfl := Option.some.inj hm
  refine ⟨rfl, fun l l' h => ?_, fun w L l l' cs el x hh hsz hb hel hs hf => ?_⟩
  · obtain ⟨h1, _⟩ := chk_some h
    have := (of_decide_eq_true h1).1
    intro h2
    have h2 : l = [] := h2
    subst h2
    exact absurd this (Nat.lt_irrefl 0)
  · obtain ⟨h1, h2⟩ := chk_some hf
    obtain ⟨h1, h3⟩ := of_decide_eq_true h1
    obtain rfl := Option.some.inj h2
    obtain ⟨A, c, rfl, hc, hcase⟩ := hs
    have h1 : 0 < List.length (α := Int) l := h1
    have h3 : List.length (α := Int) l < 4611686018427387904 := h3
    have hA : A = some ⟨L.g, L.base, none⟩ := by
      rcases hcase with h | ⟨L', h4, h5, _⟩
      · have hc : List.length (α := Int) l ≤ c := hc
        omega
      · injection h4 with h4
        subst h4
        rw [h5]
        simp
    subst hA
    have hlt : L.g < w.heap.size := (Array.getElem?_eq_some_iff.1 hh).1
    have key := Any.slices_Sort_int laysSort L.g L.base c l w (holds_row (el := el) hh hel) hlt h3
    refine Calls.mono (f := 107) key ?_
    rintro e w' ⟨rfl, n, os, rfl⟩
    have hlen : (sortI l).length = List.length (α := Int) l := List.length_mergeSort l
    exact ⟨rfl, hlen, put_row hh hsz hb hlen⟩

def mCompact : Mut := { t := tI, f := fun (l : List Int) => chk (decide (0 < l.length ∧ l.length < 4611686018427387904)) (some (Lib.compact l ++ List.replicate (l.length - (Lib.compact l).length) 0)), n := some fun (l : List Int) => (Lib.compact l).length }
noncomputable def S108 : Summ := { rt := Unit, call := fun _ => none, res := fun _ => .tup [], alt := some mCompact }

theorem compact_le (l : List Int) : (Lib.compact l).length ≤ l.length := by
  unfold Lib.compact Lib.compactUpTo
  rw [List.length_map]
  refine Nat.le_trans (List.length_filter_le _ _) ?_
  simp

theorem ok108 : SumOk Try.prog 108 S108 := by
  refine ⟨⟨Try.f108, (Go.Func.body Try.f108).getD .skip, by kernel_rfl, by kernel_rfl, by kernel_rfl⟩, ?_, fun m hm => ?_⟩
  · intro B w vs xs x hB hv hx
    cases hx
  obtain rfl := Option.some.inj hm
  refine ⟨rfl, fun l l' h => ?_, fun w L l l' cs el x hh hsz hb hel hs hf => ?_⟩
  · obtain ⟨h1, _⟩ := chk_some h
    have := (of_decide_eq_true h1).1
    intro h2
    have h2 : l = [] := h2
    subst h2
    exact absurd this (Nat.lt_irrefl 0)
  · obtain ⟨h1, h2⟩ := chk_some hf
    obtain ⟨h1, h3⟩ := of_decide_eq_true h1
    obtain rfl := Option.some.inj h2
    obtain ⟨A, c, rfl, hc, hcase⟩ := hs
    have h1 : 0 < List.length (α := Int) l := h1
    have h3 : List.length (α := Int) l < 4611686018427387904 := h3
    have hc : List.length (α := Int) l ≤ c := hc
    have hA : A = some ⟨L.g, L.base, none⟩ := by
      rcases hcase with h | ⟨L', h4, h5, _⟩
      · omega
      · injection h4 with h4
        subst h4
        rw [h5]
        simp
    subst hA
    have key := Any.slices_Compact_int laysCompact L.g L.base c l w (holds_row (el := el) hh hel) (by omega) hc
    refine Calls.mono (f := 108) key ?_
    rintro e w' ⟨rfl, n, rfl⟩
    have hle := compact_le l
    have hlen : (Lib.compact (α := Int) l ++ List.replicate (List.length (α := Int) l - (Lib.compact (α := Int) l).length) 0).length = List.length (α := Int) l := by
      rw [List.length_append, List.length_replicate]
      omega
    refine ⟨⟨hle, _, c, rfl, rfl⟩, hlen, ?_⟩
    have := put_row (n := n) (os := #[]) hh hsz hb hlen
    rwa [Go.Sort.grow_empty] at this

end Go.Proofs.Ytiboikgoaihccaa.R
