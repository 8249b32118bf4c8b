/-
Operations, further: places of fields and elements, least and greatest; all operations.
-/
import Derived.Test.YtiboikgoaihccaaR16
namespace Go.Proofs.Ytiboikgoaihccaa.R
open Go.RowKit
set_option linter.unusedVariables false

section
variable {P : Program} {E : Env} {C : Frm} {β : Nat → Option Loc} {σ σ' : St} {a : Act} {as : List (Array Value)} {w : World} {o : Oper} {nm : Nat} {ty : TypeId} {bs : List Bool} {v : V}

theorem field_of (hT : TtOk P E.tt) {s : TypeId} {fs : List (Nat × TypeId)} {f off : Nat} {ft : TypeId} (hk : (E.tt s).kind = .struct fs) (hf : fs[f]? = some (off, ft)) :
    ∃ (F : Array Field) (g : Field) (i : TypeInfo), P.underlying s = some (.struct F) ∧ F[f]? = some g ∧ g.offset = off ∧ g.type = ft ∧ P.info? ft = some i ∧ i.size = (E.tt ft).size := by
  obtain ⟨F, hu, hF, hFi⟩ := hT.struct s fs hk
  rw [← hF, List.getElem?_map, Option.map_eq_some_iff] at hf
  obtain ⟨g, hg, hgg⟩ := hf
  simp only [Prod.mk.injEq] at hgg
  obtain ⟨rfl, rfl⟩ := hgg
  obtain ⟨i, hi, his⟩ := hFi g (List.mem_of_getElem? hg)
  exact ⟨F, g, i, hu, by simpa using hg, rfl, rfl, hi, his⟩

theorem run_fieldAt (hT : TtOk P E.tt) {s : TypeId} {fs : List (Nat × TypeId)} {f off : Nat} {ft : TypeId} (hk : (E.tt s).kind = .struct fs) (hf : fs[f]? = some (off, ft)) (hs : 0 < (E.tt ft).size) (ad : Addr) :
    (Instr.fieldAt s (.pointer (some ad)) f).run P w = .ok (.pointer (some (ad.add off))) w := by
  obtain ⟨F, g, i, hu, hg, rfl, rfl, hi, his⟩ := field_of hT hk hf
  have : ¬ (i.size = 0) := by omega
  simp [Instr.fieldAt, run_underlying hu, hg, Instr.sureAddr, fieldPlace, sizeOf, typeInfo, hi, this]

theorem done_fieldAddr_ptr (hT : TtOk P E.tt) (h : Sim C β σ (a.tmps :: as) w) {s : TypeId} {x : Operand} {fs : List (Nat × TypeId)} {f off : Nat} {ft : TypeId} {e i oo : Nat} {E1 : Entry} (hop : o.op = .fieldAddr s x f) (hk : (E.tt s).kind = .struct fs) (hf : fs[f]? = some (off, ft)) (hs : 0 < (E.tt ft).size)
    (hv : σ.eval x = .ptr e i oo) (hl : look σ.mem e = some E1) (hfit : ∀ t l, E1 = .row t l → oo + off ≤ t.size) : Done P C o a as w (.ptr e i (oo + off)) σ := by
  have hx := h.eval x
  rw [hv] at hx
  obtain ⟨E2, L, hl2, hL, hx⟩ := hx
  have := hl.symm.trans hl2
  injection this with this
  subst this
  have hadd : ∀ b, (⟨L.g, b, none⟩ : Addr).add off = ⟨L.g, b + off, none⟩ := by
    intro b
    unfold Addr.add
    split
    · rename_i h0; subst h0; rfl
    · rfl
  cases E1 with
  | row t l =>
    obtain ⟨h1, h2, hx⟩ := hx
    have hr := run_fieldAt (w := w) hT hk hf hs ⟨L.g, L.base + i * t.size + oo, none⟩
    refine .same (x := .pointer (some ((⟨L.g, L.base + i * t.size + oo, none⟩ : Addr).add off))) h (by simp only [execOp, hop, hx, Sem.run_bind, hr, Result.andThen_ok, Sem.run_pure]) (V3.of0 ⟨_, L, hl, hL, h1, hfit t l rfl, ?_⟩)
    rw [hadd, Nat.add_assoc]
  | box cs =>
    obtain ⟨h1, hx⟩ := hx
    have hr := run_fieldAt (w := w) hT hk hf hs ⟨L.g, L.base + oo, none⟩
    refine .same (x := .pointer (some ((⟨L.g, L.base + oo, none⟩ : Addr).add off))) h (by simp only [execOp, hop, hx, Sem.run_bind, hr, Result.andThen_ok, Sem.run_pure]) (V3.of0 ⟨_, L, hl, hL, h1, ?_⟩)
    rw [hadd, Nat.add_assoc]

theorem done_fieldAddr_rop (hT : TtOk P E.tt) (h : Sim C β σ (a.tmps :: as) w) {s : TypeId} {x : Operand} {fs : List (Nat × TypeId)} {f off : Nat} {ft : TypeId} {cs : List V} (hop : o.op = .fieldAddr s x f) (hk : (E.tt s).kind = .struct fs) (hf : fs[f]? = some (off, ft)) (hs : 0 < (E.tt ft).size)
    (hv : σ.eval x = .rop cs) : Done P C o a as w (.rop (cs.drop off)) σ := by
  have hx := h.eval x
  rw [hv] at hx
  obtain ⟨ad, hx, hb, hc⟩ := hx
  have hr := run_fieldAt (w := w) hT hk hf hs ad
  refine .same (x := .pointer (some (ad.add off))) h (by simp only [execOp, hop, hx, Sem.run_bind, hr, Result.andThen_ok, Sem.run_pure]) (V3.of0 ⟨_, rfl, by rw [Addr.add_block]; exact hb, fun j v hj => ?_⟩)
  rw [List.getElem?_drop] at hj
  rw [Addr.add_add]
  exact hc _ v hj

theorem run_isAgg (hT : TtOk P E.tt) {t : TypeId} (hs : (E.tt t).size ≠ 0) : (isAgg t).run P w = .ok (E.tt t).agg w := by
  obtain ⟨d, hu, hd⟩ := hT.agg t hs
  simp only [isAgg, Sem.run_bind, run_underlying hu, Result.andThen_ok, hd]
  cases d <;> rfl

theorem done_field (hT : TtOk P E.tt) (h : Sim C β σ (a.tmps :: as) w) {t : TypeId} {x : Operand} {fs : List (Nat × TypeId)} {f off : Nat} {ft : TypeId} {cs : List V} (hop : o.op = .field t x f) (hk : (E.tt t).kind = .struct fs) (hf : fs[f]? = some (off, ft)) (hs : 0 < (E.tt ft).size)
    (hv : σ.eval x = .agg cs) (hfit : off + (E.tt ft).size ≤ cs.length) : Done P C o a as w (asV (E.tt ft).agg ((cs.drop off).take (E.tt ft).size)) σ := by
  have hx := h.eval x
  rw [hv] at hx
  obtain ⟨ys, hx, ha⟩ := hx
  obtain ⟨F, g, i, hu, hg, rfl, rfl, hi, his⟩ := field_of hT hk hf
  have hl := ha.length
  simp only [Array.length_toList] at hl
  have hall : All2 (V1 (cx C β σ w)) ((cs.drop g.offset).take (E.tt g.type).size) (ys.extract g.offset (g.offset + (E.tt g.type).size)).toList := by
    have := (ha.drop g.offset).take (E.tt g.type).size
    rw [Array.toList_extract, List.extract_eq_take_drop]
    rw [show g.offset + (E.tt g.type).size - g.offset = (E.tt g.type).size from by omega]
    exact this
  have hag := run_isAgg (w := w) hT (t := g.type) (by omega)
  have h3 := V3_asV (g := (E.tt g.type).agg) hall fun hg1 => by
    have := hT.one g.type (by omega) hg1
    simp; omega
  refine .same h ?_ h3
  cases hga : (E.tt g.type).agg with
  | true =>
    rw [hga] at hag
    simp [execOp, hop, hx, Instr.field, run_underlying hu, hg, asAgg, part, hag, sizeOf, typeInfo, hi, his]
  | false =>
    rw [hga] at hag
    have h1 := hT.one g.type (by omega) hga
    rw [h1] at hfit ⊢
    have hlt : g.offset < ys.size := by omega
    have e1 : ys[g.offset]? = some ys[g.offset] := Array.getElem?_eq_getElem hlt
    have e2 : (ys.extract g.offset (g.offset + 1)).toList.headD undef = ys[g.offset] := by
      rw [Array.toList_extract, List.extract_eq_take_drop, Nat.add_sub_cancel_left]
      have : ys.toList.drop g.offset = ys[g.offset] :: ys.toList.drop (g.offset + 1) := by
        rw [List.drop_eq_getElem_cons (by simpa using hlt)]
        simp
      rw [this]; rfl
    simp only [Bool.false_eq_true, if_false, e2]
    simp [execOp, hop, hx, Instr.field, run_underlying hu, hg, asAgg, part, hag, e1]

theorem run_indexSl (hT : TtOk P E.tt) {t e : TypeId} {ad : Addr} {len c : Nat} {k : IntKind} {n : Int} (hk : (E.tt t).kind = .slice e) (hs : (E.tt e).size ≠ 0) (hn : 0 ≤ n ∧ n < len) :
    (Instr.indexAt t (.slice (some ad) len c) (.int k n)).run P w = .ok (.pointer (some (ad.add (n.toNat * (E.tt e).size)))) w := by
  have hu := hT.slice t e hk
  obtain ⟨i, z, hi, his, _⟩ := hT.info e hs
  simp [Instr.indexAt, asIntOf, run_underlying hu, hn, sizeOf, typeInfo, hi, his]

theorem run_indexArr (hT : TtOk P E.tt) {t e : TypeId} {ad : Addr} {len : Nat} {k : IntKind} {n : Int} (hk : (E.tt t).kind = .array len e) (hs : (E.tt e).size ≠ 0) (hn : 0 ≤ n ∧ n < len) :
    (Instr.indexAt t (.pointer (some ad)) (.int k n)).run P w = .ok (.pointer (some (ad.add (n.toNat * (E.tt e).size)))) w := by
  have hu := hT.array t len e hk
  obtain ⟨i, z, hi, his, _⟩ := hT.info e hs
  simp [Instr.indexAt, asIntOf, run_underlying hu, Instr.sureAddr, hn, sizeOf, typeInfo, hi, his]

theorem rd_get {t : Ty} {l : List t.den} {n : Int} (hn : 0 ≤ n ∧ n < l.length) : l[n.toNat]? = some (rd t l n) := by
  have hlt : n.toNat < l.length := by omega
  rw [List.getElem?_eq_getElem hlt]
  simp [rd, List.getD_eq_getElem?_getD, hlt]

theorem done_indexAddr_ro (hT : TtOk P E.tt) (h : Sim C β σ (a.tmps :: as) w) {t e : TypeId} {x ix : Operand} {te : Ty} {l : List te.den} {k : IntKind} {n : Int} (hop : o.op = .indexAddr t x ix) (hk : (E.tt t).kind = .slice e) (hv : σ.eval x = .ro te l) (hi : σ.eval ix = .int k n) (hs : te.size = (E.tt e).size) (hn : 0 ≤ n ∧ n < l.length) :
    Done P C o a as w (.rop (enc te (rd te l n))) σ := by
  have hx := h.eval x
  rw [hv] at hx
  have hix := h.eval ix
  rw [hi] at hix
  have hix : a.eval ix = .int k n := hix
  obtain ⟨A, c, hxe, hc, hel⟩ := (show DRel (Free C σ.mem β w) w (.list te) l [a.eval x] from hx)
  injection hxe with hxe
  obtain ⟨ad, zs, rfl, hb, hz, hcell⟩ := hel n.toNat _ (rd_get hn)
  have hr := run_indexSl (P := P) (w := w) (c := c) (ad := ad) (k := k) hT hk (by have := te.size_pos; omega) hn
  refine .same (x := .pointer (some (ad.add (n.toNat * (E.tt e).size)))) h (by simp only [execOp, hop, hxe, hix, Sem.run_bind, hr, Result.andThen_ok, Sem.run_pure]) (V3.of0 ⟨_, rfl, by rw [Addr.add_block]; exact hb, fun j v hj => ?_⟩)
  obtain ⟨y, hy, h0⟩ := (DRel.enc (S := cx C β σ w) hz).get hj
  exact ⟨y, by rw [Addr.add_add, ← hs]; exact hcell j y hy, h0⟩

theorem done_indexAddr_own (hT : TtOk P E.tt) (h : Sim C β σ (a.tmps :: as) w) {t e : TypeId} {x ix : Operand} {te : Ty} {l : List te.den} {k : IntKind} {n : Int} {en off len : Nat} (hop : o.op = .indexAddr t x ix) (hk : (E.tt t).kind = .slice e) (hl : look σ.mem en = some (.row te l)) (ho : off + len ≤ l.length) (hsl : SlAt (β en) te.size off len (a.eval x)) (hi : σ.eval ix = .int k n) (hs : te.size = (E.tt e).size) (hn : 0 ≤ n ∧ n < len) :
    Done P C o a as w (.ptr en (off + n.toNat) 0) σ := by
  have hix := h.eval ix
  rw [hi] at hix
  have hix : a.eval ix = .int k n := hix
  obtain ⟨A, c, hxe, hc, hcase⟩ := hsl
  rcases hcase with h0 | ⟨L, hL, rfl, hfit⟩
  · omega
  have hr := run_indexSl (P := P) (w := w) (c := c) (ad := ⟨L.g, L.base + off * te.size, none⟩) (k := k) hT hk (by have := te.size_pos; omega) hn
  refine .same (x := .pointer (some ((⟨L.g, L.base + off * te.size, none⟩ : Addr).add (n.toNat * (E.tt e).size)))) h (by simp only [execOp, hop, hxe, hix, Sem.run_bind, hr, Result.andThen_ok, Sem.run_pure]) (V3.of0 ⟨_, L, hl, hL, by omega, Nat.zero_le _, ?_⟩)
  rw [← hs]
  unfold Addr.add
  split
  · rename_i hz; simp only [Value.pointer.injEq, Option.some.injEq, Addr.mk.injEq, true_and, and_true]; rw [Nat.add_mul, hz]; omega
  · simp only [Value.pointer.injEq, Option.some.injEq, Addr.mk.injEq, true_and, and_true]; rw [Nat.add_mul]; omega

theorem done_indexAddr_arr (hT : TtOk P E.tt) (h : Sim C β σ (a.tmps :: as) w) {t e : TypeId} {x ix : Operand} {k : IntKind} {n : Int} {en i oo len : Nat} {E1 : Entry} (hop : o.op = .indexAddr t x ix) (hk : (E.tt t).kind = .array len e) (hs : 0 < (E.tt e).size) (hv : σ.eval x = .ptr en i oo) (hl : look σ.mem en = some E1) (hi : σ.eval ix = .int k n) (hn : 0 ≤ n ∧ n < len)
    (hfit : ∀ t l, E1 = .row t l → oo + len * (E.tt e).size ≤ t.size) : Done P C o a as w (.ptr en i (oo + n.toNat * (E.tt e).size)) σ := by
  have hix := h.eval ix
  rw [hi] at hix
  have hix : a.eval ix = .int k n := hix
  have hx := h.eval x
  rw [hv] at hx
  obtain ⟨E2, L, hl2, hL, hx⟩ := hx
  have := hl.symm.trans hl2
  injection this with this
  subst this
  have hadd : ∀ b m, (⟨L.g, b, none⟩ : Addr).add m = ⟨L.g, b + m, none⟩ := by
    intro b m
    unfold Addr.add
    split
    · rename_i h0; subst h0; rfl
    · rfl
  cases E1 with
  | row t0 l0 =>
    obtain ⟨h1, h2, hx⟩ := hx
    have hr := run_indexArr (P := P) (w := w) (ad := ⟨L.g, L.base + i * t0.size + oo, none⟩) (k := k) hT hk (by omega) hn
    refine .same (x := .pointer (some ((⟨L.g, L.base + i * t0.size + oo, none⟩ : Addr).add (n.toNat * (E.tt e).size)))) h (by simp only [execOp, hop, hx, hix, Sem.run_bind, hr, Result.andThen_ok, Sem.run_pure]) (V3.of0 ⟨_, L, hl, hL, h1, ?_, ?_⟩)
    · have := hfit t0 l0 rfl
      have h3 := Nat.mul_le_mul_right (E.tt e).size (show n.toNat ≤ len by omega)
      omega
    · rw [hadd, Nat.add_assoc]
  | box cs =>
    obtain ⟨h1, hx⟩ := hx
    have hr := run_indexArr (P := P) (w := w) (ad := ⟨L.g, L.base + oo, none⟩) (k := k) hT hk (by omega) hn
    refine .same (x := .pointer (some ((⟨L.g, L.base + oo, none⟩ : Addr).add (n.toNat * (E.tt e).size)))) h (by simp only [execOp, hop, hx, hix, Sem.run_bind, hr, Result.andThen_ok, Sem.run_pure]) (V3.of0 ⟨_, L, hl, hL, h1, ?_⟩)
    rw [hadd, Nat.add_assoc]

theorem done_index (hT : TtOk P E.tt) (h : Sim C β σ (a.tmps :: as) w) {t : TypeId} {x ix : Operand} {s : ByteArray} {k : IntKind} {n : Int} (hop : o.op = .index t x ix) (hk : (E.tt t).kind = .str) (hv : σ.eval x = .str s) (hi : σ.eval ix = .int k n) (hn : 0 ≤ n ∧ n < s.size) :
    Done P C o a as w (.int .u8 (byteAt s n)) σ := by
  have hx := h.eval x
  rw [hv] at hx
  have hx : a.eval x = .string s := hx
  have hix := h.eval ix
  rw [hi] at hix
  have hix : a.eval ix = .int k n := hix
  have hu := hT.str t hk
  refine .same (x := .int .u8 (byteAt s n)) h ?_ rfl
  have hlt : n.toNat < s.size := by omega
  have hlt' : n.toNat < s.data.size := hlt
  have hb : s[n.toNat]? = some s[n.toNat] := by simp [hlt]
  have hb2 : byteAt s n = ((s[n.toNat]).toNat : Int) := by
    show ((s.data.toList.getD n.toNat 0).toNat : Int) = ((s.data[n.toNat]).toNat : Int)
    rw [List.getD_eq_getElem?_getD, Array.getElem?_toList, Array.getElem?_eq_getElem hlt']; rfl
  simp [execOp, hop, hx, hix, Instr.index, asIntOf, run_underlying hu, hn.1, hb, hb2]

theorem intsOf_rel (h : Sim C β σ (a.tmps :: as) w) : ∀ {os : List Operand} {k : IntKind} {ns : List Int}, intsOf σ os = some (k, ns) → os.map a.eval = ns.map fun n => .int k n
  | [], k, ns, hi => by simp [intsOf] at hi
  | [x], k, ns, hi => by
    have hx := h.eval x
    simp only [intsOf] at hi
    split at hi
    · rename_i k' n hv
      rw [hv] at hx
      have hx : a.eval x = .int k' n := hx
      simp only [Option.some.injEq, Prod.mk.injEq] at hi
      obtain ⟨rfl, rfl⟩ := hi
      simp [hx]
    · cases hi
  | x :: y :: os, k, ns, hi => by
    have hx := h.eval x
    simp only [intsOf] at hi
    split at hi
    · rename_i k1 n k2 ns' hv hrest
      rw [hv] at hx
      have hx : a.eval x = .int k1 n := hx
      have ih := intsOf_rel h hrest
      split at hi
      · rename_i hkk
        subst hkk
        simp only [Option.some.injEq, Prod.mk.injEq] at hi
        obtain ⟨rfl, rfl⟩ := hi
        simp only [List.map_cons, hx] at ih ⊢
        rw [ih]
      · cases hi
    · cases hi

theorem run_mins (k : IntKind) : ∀ (ns : List Int) (n : Int), ((ns.map fun n => Value.int k n).foldlM Builtin.min2 (.int k n)).run P w = .ok (.int k (ns.foldl min2I n)) w
  | [], n => by simp
  | m :: ns, n => by
    have : (if m < n then m else n) = min2I n m := by unfold min2I; by_cases h : m < n <;> simp [h]
    simp only [List.map_cons, List.foldlM_cons, Builtin.min2, Sem.run_bind, Sem.run_pure, Result.andThen_ok, List.foldl_cons, this, run_mins k ns]

theorem run_maxs (k : IntKind) : ∀ (ns : List Int) (n : Int), ((ns.map fun n => Value.int k n).foldlM Builtin.max2 (.int k n)).run P w = .ok (.int k (ns.foldl max2I n)) w
  | [], n => by simp
  | m :: ns, n => by
    have : (if m > n then m else n) = max2I n m := by unfold max2I; by_cases h : m > n <;> simp [h]
    simp only [List.map_cons, List.foldlM_cons, Builtin.max2, Sem.run_bind, Sem.run_pure, Result.andThen_ok, List.foldl_cons, this, run_maxs k ns]

theorem done_min (h : Sim C β σ (a.tmps :: as) w) {c : Call} {k : IntKind} {n : Int} {ns : List Int} (hop : o.op = .call c) (hc : c.callee = .builtin .min) (hi : intsOf σ c.args.toList = some (k, n :: ns)) : Done P C o a as w (.int k (ns.foldl min2I n)) σ := by
  have h1 := intsOf_rel h hi
  refine .same (x := .int k (ns.foldl min2I n)) h ?_ rfl
  have h2 : (c.args.map a.eval).toList = (n :: ns).map fun n => .int k n := by rw [Array.toList_map]; exact h1
  simp only [execOp, hop, resolve, hc, Sem.run_bind, Sem.run_pure, Result.andThen_ok, invoke, builtin, Builtin.min_, h2, List.map_cons, run_mins]

theorem done_max (h : Sim C β σ (a.tmps :: as) w) {c : Call} {k : IntKind} {n : Int} {ns : List Int} (hop : o.op = .call c) (hc : c.callee = .builtin .max) (hi : intsOf σ c.args.toList = some (k, n :: ns)) : Done P C o a as w (.int k (ns.foldl max2I n)) σ := by
  have h1 := intsOf_rel h hi
  refine .same (x := .int k (ns.foldl max2I n)) h ?_ rfl
  have h2 : (c.args.map a.eval).toList = (n :: ns).map fun n => .int k n := by rw [Array.toList_map]; exact h1
  simp only [execOp, hop, resolve, hc, Sem.run_bind, Sem.run_pure, Result.andThen_ok, invoke, builtin, Builtin.max_, h2, List.map_cons, run_maxs]

end
end Go.Proofs.Ytiboikgoaihccaa.R
