/-
  Quiet operations, one rule a kind.
-/
import Derived.Test.YtcgocdcbceeoiaaGreatA4
import Derived.Laws.Slices
import Derived.IntWalk
namespace Go.Proofs.YtcgocdcbceeoiaaGreat
open Go

theorem QOp_pure {P : Program} {o : Oper} {s : St} {d : D}
    (h : ∀ (E : Env) (a : Act) (w : World), (∀ x ∈ o.op.operands, Rep E w (a.eval x) (s.ev x)) → MemSim E s.loc w → ∃ v, (execOp a.eval o).run P w = .ok (.value v) w ∧ Rep E w v d) : QOp P o s d := by
  intro E a w _ _ ho hm
  obtain ⟨v, h1, h2⟩ := h E a w ho hm
  unfold Oper.wp
  rw [h1]
  exact ⟨v, E, rfl, h2, hm, Ev.refl E w⟩
/-- One that may draw. -/
theorem QOp_drawn {P : Program} {o : Oper} {s : St} {d : D}
    (h : ∀ (E : Env) (a : Act) (w : World), (∀ x ∈ o.op.operands, Rep E w (a.eval x) (s.ev x)) → MemSim E s.loc w → ∃ v w', (execOp a.eval o).run P w = .ok (.value v) w' ∧ w'.heap = w.heap ∧ w'.os = w.os ∧ w'.tape = w.tape ∧ w'.output = w.output ∧ Rep E w v d) : QOp P o s d := by
  intro E a w _ _ ho hm
  obtain ⟨v, w', h1, h2, h3, h4, h5, h6⟩ := h E a w ho hm
  unfold Oper.wp
  rw [h1]
  have ev := Ev.sameHeap E h2 h3 h4 h5
  exact ⟨v, E, rfl, h6.ev ev, hm.sameHeap h2 h3 h4 h5, ev⟩

section
variable {P : Program} {o : Oper} {s : St}

theorem QOp_move {x : Operand} (ho : o.op = .move x) : QOp P o s (s.ev x) :=
  QOp_pure fun E a w h _ => ⟨a.eval x, by simp [execOp, ho], h x (by simp [ho, Op.operands])⟩
theorem QOp_assign {x : Operand} (ho : o.op = .assign x) : QOp P o s (s.ev x) :=
  QOp_pure fun E a w h _ => ⟨a.eval x, by simp [execOp, ho], h x (by simp [ho, Op.operands])⟩
def D.sel (g : Bool) (a b : D) : D := match g with | true => a | false => b
theorem QOp_pick {c x y : Operand} {g : Bool} (ho : o.op = .pick c x y) (hc : s.ev c = .bool g) : QOp P o s (D.sel g (s.ev x) (s.ev y)) :=
  QOp_pure fun E a w h _ => by
    have h1 : a.eval c = .bool g := Rep.bool_inv (hc ▸ h c (by simp [ho, Op.operands]))
    refine ⟨if g then a.eval x else a.eval y, by simp [execOp, ho, h1, asBool], ?_⟩
    cases g
    · exact h y (by simp [ho, Op.operands])
    · exact h x (by simp [ho, Op.operands])
theorem QOp_not {x : Operand} {t : TypeId} {b : Bool} (ho : o.op = .unOp .not t x) (hx : s.ev x = .bool b) : QOp P o s (.bool (!b)) :=
  QOp_pure fun E a w h _ => by
    have h1 : a.eval x = .bool b := Rep.bool_inv (hx ▸ h x (by simp [ho, Op.operands]))
    exact ⟨.bool (!b), by simp [execOp, ho, h1, Op.unary], .bool _⟩

/-! integers -/
def cmpD (op : BinOp) (m n : Int) : Option Bool :=
  match op with
  | .eql => some (m == n)
  | .neq => some (m != n)
  | .lss => some (decide (m < n))
  | .leq => some (decide (m ≤ n))
  | .gtr => some (decide (m > n))
  | .geq => some (decide (m ≥ n))
  | _ => none
def isCmp : BinOp → Bool
  | .eql | .neq | .lss | .leq | .gtr | .geq => true
  | _ => false
def isArith : BinOp → Bool
  | .add | .sub | .mul => true
  | _ => false
theorem QOp_icmp {op : BinOp} {t yt : TypeId} {x y : Operand} {k : IntKind} {m n : Int} {b : Bool} (ho : o.op = .binOp op t x y yt) (_hop : isCmp op = true) (hx : s.ev x = .int k m) (hy : s.ev y = .int k n) (hb : cmpD op m n = some b) :
    QOp P o s (.bool b) :=
  QOp_pure fun E a w h _ => by
    have h1 : a.eval x = .int k m := Rep.int_inv (hx ▸ h x (by simp [ho, Op.operands]))
    have h2 : a.eval y = .int k n := Rep.int_inv (hy ▸ h y (by simp [ho, Op.operands]))
    refine ⟨.bool b, ?_, .bool _⟩
    cases op <;> simp only [cmpD, Option.some.injEq, reduceCtorEq] at hb <;> subst hb <;> simp [execOp, ho, h1, h2, eqGuard_at_int, binOp, Op.intCmp]
def arithD (op : BinOp) (k : IntKind) (m n : Int) : Option Int :=
  match op with
  | .add => some (k.wrap (m + n))
  | .sub => some (k.wrap (m - n))
  | .mul => some (k.wrap (m * n))
  | _ => none
theorem QOp_iarith {op : BinOp} {t yt : TypeId} {x y : Operand} {k : IntKind} {m n r : Int} (ho : o.op = .binOp op t x y yt) (_hop : isArith op = true) (hx : s.ev x = .int k m) (hy : s.ev y = .int k n) (hb : arithD op k m n = some r) :
    QOp P o s (.int k r) :=
  QOp_pure fun E a w h _ => by
    have h1 : a.eval x = .int k m := Rep.int_inv (hx ▸ h x (by simp [ho, Op.operands]))
    have h2 : a.eval y = .int k n := Rep.int_inv (hy ▸ h y (by simp [ho, Op.operands]))
    refine ⟨.int k r, ?_, .int _ _⟩
    cases op <;> simp only [arithD, Option.some.injEq, reduceCtorEq] at hb <;> subst hb <;> simp [execOp, ho, h1, h2, eqGuard_at_int, binOp, Op.intArith]
theorem wrap_in {k : IntKind} {n : Int} (h1 : k.min ≤ n) (h2 : n ≤ k.max) : k.wrap n = n := by
  cases k <;> simp [IntKind.min, IntKind.max, IntKind.signed, IntKind.bits] at h1 h2 <;> simp [IntKind.wrap, IntKind.signed, IntKind.bits] <;> omega
/-- Sums, differences and products of int64 that fit. -/
theorem QOp_add64 {t yt : TypeId} {x y : Operand} {m n : Int} (ho : o.op = .binOp .add t x y yt) (hx : s.ev x = .int .i64 m) (hy : s.ev y = .int .i64 n)
    (h1 : -9223372036854775808 ≤ m + n ∧ m + n ≤ 9223372036854775807) : QOp P o s (.int .i64 (m + n)) := by
  have := QOp_iarith (P := P) ho rfl hx hy (r := IntKind.i64.wrap (m + n)) rfl
  rwa [wrap_in (by simpa [IntKind.min, IntKind.signed, IntKind.bits] using h1.1) (by simpa [IntKind.max, IntKind.signed, IntKind.bits] using h1.2)] at this
theorem QOp_sub64 {t yt : TypeId} {x y : Operand} {m n : Int} (ho : o.op = .binOp .sub t x y yt) (hx : s.ev x = .int .i64 m) (hy : s.ev y = .int .i64 n)
    (h1 : -9223372036854775808 ≤ m - n ∧ m - n ≤ 9223372036854775807) : QOp P o s (.int .i64 (m - n)) := by
  have := QOp_iarith (P := P) ho rfl hx hy (r := IntKind.i64.wrap (m - n)) rfl
  rwa [wrap_in (by simpa [IntKind.min, IntKind.signed, IntKind.bits] using h1.1) (by simpa [IntKind.max, IntKind.signed, IntKind.bits] using h1.2)] at this
theorem QOp_mul64 {t yt : TypeId} {x y : Operand} {m n : Int} (ho : o.op = .binOp .mul t x y yt) (hx : s.ev x = .int .i64 m) (hy : s.ev y = .int .i64 n)
    (h1 : -9223372036854775808 ≤ m * n ∧ m * n ≤ 9223372036854775807) : QOp P o s (.int .i64 (m * n)) := by
  have := QOp_iarith (P := P) ho rfl hx hy (r := IntKind.i64.wrap (m * n)) rfl
  rwa [wrap_in (by simpa [IntKind.min, IntKind.signed, IntKind.bits] using h1.1) (by simpa [IntKind.max, IntKind.signed, IntKind.bits] using h1.2)] at this
theorem QOp_rem {t yt : TypeId} {x y : Operand} {k : IntKind} {m n : Int} (ho : o.op = .binOp .rem t x y yt) (hx : s.ev x = .int k m) (hy : s.ev y = .int k n) (hn : n ≠ 0) : QOp P o s (.int k (m.tmod n)) :=
  QOp_pure fun E a w h _ => by
    have h1 : a.eval x = .int k m := Rep.int_inv (hx ▸ h x (by simp [ho, Op.operands]))
    have h2 : a.eval y = .int k n := Rep.int_inv (hy ▸ h y (by simp [ho, Op.operands]))
    exact ⟨.int k (m.tmod n), by simp [execOp, ho, h1, h2, eqGuard_at_int, binOp, Op.intDiv, hn], .int _ _⟩
theorem QOp_quo {t yt : TypeId} {x y : Operand} {k : IntKind} {m n : Int} (ho : o.op = .binOp .quo t x y yt) (hx : s.ev x = .int k m) (hy : s.ev y = .int k n) (hn : n ≠ 0) : QOp P o s (.int k (k.wrap (m.tdiv n))) :=
  QOp_pure fun E a w h _ => by
    have h1 : a.eval x = .int k m := Rep.int_inv (hx ▸ h x (by simp [ho, Op.operands]))
    have h2 : a.eval y = .int k n := Rep.int_inv (hy ▸ h y (by simp [ho, Op.operands]))
    exact ⟨.int k (k.wrap (m.tdiv n)), by simp [execOp, ho, h1, h2, eqGuard_at_int, binOp, Op.intDiv, hn], .int _ _⟩
def bitsD (op : BinOp) (k : IntKind) (m n : Int) : Option Int :=
  let a := BitVec.ofInt k.bits m
  let b := BitVec.ofInt k.bits n
  match op with
  | .and => some (k.wrap (a &&& b).toNat)
  | .or => some (k.wrap (a ||| b).toNat)
  | .xor => some (k.wrap (a ^^^ b).toNat)
  | .andNot => some (k.wrap (a &&& ~~~b).toNat)
  | _ => none
theorem QOp_bits {op : BinOp} {t yt : TypeId} {x y : Operand} {k : IntKind} {m n r : Int} (ho : o.op = .binOp op t x y yt) (hx : s.ev x = .int k m) (hy : s.ev y = .int k n) (hb : bitsD op k m n = some r) :
    QOp P o s (.int k r) :=
  QOp_pure fun E a w h _ => by
    have h1 : a.eval x = .int k m := Rep.int_inv (hx ▸ h x (by simp [ho, Op.operands]))
    have h2 : a.eval y = .int k n := Rep.int_inv (hy ▸ h y (by simp [ho, Op.operands]))
    refine ⟨.int k r, ?_, .int _ _⟩
    cases op <;> simp only [bitsD, Option.some.injEq, reduceCtorEq] at hb <;> subst hb <;> simp [execOp, ho, h1, h2, eqGuard_at_int, binOp, Op.intBits]
theorem QOp_shl {t yt : TypeId} {x y : Operand} {k k' : IntKind} {m n : Int} (ho : o.op = .binOp .shl t x y yt) (hx : s.ev x = .int k m) (hy : s.ev y = .int k' n) (hn : 0 ≤ n) :
    QOp P o s (.int k (k.wrap (m * 2 ^ (min n.toNat k.bits)))) :=
  QOp_pure fun E a w h _ => by
    have h1 : a.eval x = .int k m := Rep.int_inv (hx ▸ h x (by simp [ho, Op.operands]))
    have h2 : a.eval y = .int k' n := Rep.int_inv (hy ▸ h y (by simp [ho, Op.operands]))
    exact ⟨.int k (k.wrap (m * 2 ^ (min n.toNat k.bits))), by simp [execOp, ho, h1, h2, eqGuard_at_int, binOp, Op.shift, show ¬ n < 0 by omega], .int _ _⟩
theorem QOp_shr {t yt : TypeId} {x y : Operand} {k k' : IntKind} {m n : Int} (ho : o.op = .binOp .shr t x y yt) (hx : s.ev x = .int k m) (hy : s.ev y = .int k' n) (hn : 0 ≤ n) :
    QOp P o s (.int k (m.fdiv (2 ^ (min n.toNat k.bits)))) :=
  QOp_pure fun E a w h _ => by
    have h1 : a.eval x = .int k m := Rep.int_inv (hx ▸ h x (by simp [ho, Op.operands]))
    have h2 : a.eval y = .int k' n := Rep.int_inv (hy ▸ h y (by simp [ho, Op.operands]))
    exact ⟨.int k (m.fdiv (2 ^ (min n.toNat k.bits))), by simp [execOp, ho, h1, h2, eqGuard_at_int, binOp, Op.shift, show ¬ n < 0 by omega], .int _ _⟩
theorem QOp_neg {t : TypeId} {x : Operand} {k : IntKind} {m : Int} (ho : o.op = .unOp .neg t x) (hx : s.ev x = .int k m) : QOp P o s (.int k (k.wrap (0 - m))) :=
  QOp_pure fun E a w h _ => by
    have h1 : a.eval x = .int k m := Rep.int_inv (hx ▸ h x (by simp [ho, Op.operands]))
    exact ⟨.int k (k.wrap (0 - m)), by simp [execOp, ho, h1, Op.unary, Op.intArith], .int _ _⟩

/-! bools -/
theorem run_equalIn_bool {t : TypeId} (ht : TyBool P t) (m n : Bool) (w : World) (d : Nat) : (Op.equalIn (d + 1) t (.bool m) (.bool n)).run P w = .ok (m == n) w := by
  simp only [Op.equalIn, Sem.run_bind, run_underlying ht.out, Result.andThen_ok, Sem.run_pure]
theorem run_equal_bool {t : TypeId} (ht : TyBool P t) (m n : Bool) (w : World) : (Op.equal t (.bool m) (.bool n)).run P w = .ok (m == n) w := run_equalIn_bool ht m n w 9999
theorem QOp_beq {t yt : TypeId} {x y : Operand} {m n : Bool} [ht : TyBool P t] (ho : o.op = .binOp .eql t x y yt) (hx : s.ev x = .bool m) (hy : s.ev y = .bool n) : QOp P o s (.bool (m == n)) :=
  QOp_pure fun E a w h _ => by
    have h1 : a.eval x = .bool m := Rep.bool_inv (hx ▸ h x (by simp [ho, Op.operands]))
    have h2 : a.eval y = .bool n := Rep.bool_inv (hy ▸ h y (by simp [ho, Op.operands]))
    refine ⟨.bool (m == n), ?_, .bool _⟩
    simp only [execOp, ho, h1, h2, eqGuard_at_bool, binOp, Sem.run_bind, Sem.run_pure, Result.andThen_ok, run_equal_bool ht]
theorem QOp_bne {t yt : TypeId} {x y : Operand} {m n : Bool} [ht : TyBool P t] (ho : o.op = .binOp .neq t x y yt) (hx : s.ev x = .bool m) (hy : s.ev y = .bool n) : QOp P o s (.bool (m != n)) :=
  QOp_pure fun E a w h _ => by
    have h1 : a.eval x = .bool m := Rep.bool_inv (hx ▸ h x (by simp [ho, Op.operands]))
    have h2 : a.eval y = .bool n := Rep.bool_inv (hy ▸ h y (by simp [ho, Op.operands]))
    refine ⟨.bool (m != n), ?_, .bool _⟩
    simp only [execOp, ho, h1, h2, eqGuard_at_bool, binOp, Sem.run_bind, Sem.run_pure, Result.andThen_ok, run_equal_bool ht, bne]

/-! functions and tuples -/
theorem QOp_fn {f : FuncId} {cs : Array Operand} (ho : o.op = .makeFunc (.func f) #[] cs) : QOp P o s (.fn f (cs.toList.map s.ev)) :=
  QOp_pure fun E a w h _ => by
    refine ⟨.func (.func f) #[] (cs.map a.eval), by simp [execOp, ho, Instr.makeFunc], .fn f _ _ (by simp) fun i v d h1 h2 => ?_⟩
    simp only [Array.getElem?_map, Option.map_eq_some_iff, List.getElem?_map] at h1 h2
    obtain ⟨x, hx, rfl⟩ := h1
    obtain ⟨y, hy, rfl⟩ := h2
    have : x = y := by
      rw [Array.getElem?_toList] at hy; rw [hy] at hx; exact (Option.some.inj hx).symm
    subst this
    exact h x (by simp [ho, Op.operands]; exact Array.mem_of_getElem? hx)
theorem QOp_extract {x : Operand} {i : Nat} {ds : List D} {d : D} (ho : o.op = .extract x i) (hx : s.ev x = .tup ds) (hd : ds[i]? = some d) : QOp P o s d :=
  QOp_pure fun E a w h _ => by
    have h1 : Rep E w (a.eval x) (.tup ds) := hx ▸ h x (by simp [ho, Op.operands])
    generalize hv : a.eval x = v at h1
    cases h1 with
    | tup vs _ hl hr =>
      have hi : i < vs.size := by rw [hl]; exact (List.getElem?_eq_some_iff.1 hd).1
      exact ⟨vs[i], by simp [execOp, ho, hv, Instr.extract, hi], hr i _ _ (by simp [hi]) hd⟩

/-! parts of aggregates -/
/-- The part of cells that is a value of n cells (or the one cell). -/
def partD (ag : Bool) (n : Nat) (cs : List D) : Option D :=
  match ag with
  | true => if n ≤ cs.length then some (.agg (cs.take n)) else none
  | false => cs[0]?

theorem run_part {E : Env} {w : World} {e n : Nat} {ag : Bool} (ht : TElm P e n ag) {vs : Array Value} {ds : List D} (hl : vs.size = ds.length)
    (hr : ∀ (i : Nat) v d, vs[i]? = some v → ds[i]? = some d → Rep E w v d) {off : Nat} {d : D} (hd : partD ag n (ds.drop off) = some d) :
    ∃ v, (part e vs off).run P w = .ok v w ∧ Rep E w v d := by
  obtain ⟨de, inf, h1, h2, h3, h4, h5⟩ := ht.out
  cases ag with
  | true =>
    simp only [partD] at hd
    split at hd
    · rename_i hn
      simp only [Option.some.injEq] at hd
      subst hd
      refine ⟨.agg (vs.extract off (off + n)), ?_, ?_⟩
      · simp only [part, Sem.run_bind, run_isAgg_agg (n := n) ⟨de, inf, h1, h2, h3, h4⟩, Result.andThen_ok, if_true, run_sizeOf (n := n) ⟨inf, h3, h4⟩, Sem.run_pure]
      · simp only [List.length_drop] at hn
        refine .agg _ _ (by simp; omega) fun i v d g1 g2 => ?_
        rw [List.getElem?_take] at g2
        split at g2
        · rename_i hi
          rw [List.getElem?_drop] at g2
          rw [Array.getElem?_extract] at g1
          rw [if_pos (by omega)] at g1
          exact hr _ v d g1 g2
        · simp at g2
    · simp at hd
  | false =>
    simp only [partD, List.getElem?_drop, Nat.add_zero] at hd
    have hlt : off < vs.size := by rw [hl]; exact (List.getElem?_eq_some_iff.1 hd).1
    have hz : (isAgg e).run P w = .ok false w := by
      simp only [isAgg, Sem.run_bind, run_underlying h1, Result.andThen_ok]
      cases de <;> simp [isAggD] at h2 <;> rfl
    refine ⟨vs[off], ?_, hr off _ _ (by simp [hlt]) hd⟩
    simp only [part, Sem.run_bind, hz, Result.andThen_ok, Bool.false_eq_true, if_false]
    rw [Array.getElem?_eq_getElem hlt]
    simp

theorem QOp_field {t i off n : Nat} {ag : Bool} {x : Operand} {cs : List D} {d : D} [ht : TFld P t i off n ag] (ho : o.op = .field t x i) (hx : s.ev x = .agg cs) (hd : partD ag n (cs.drop off) = some d) : QOp P o s d :=
  QOp_pure fun E a w h _ => by
    obtain ⟨fs, f, de, inf, h1, h2, h3, h4⟩ := ht.out
    have h5 : Rep E w (a.eval x) (.agg cs) := hx ▸ h x (by simp [ho, Op.operands])
    generalize hv : a.eval x = v at h5
    cases h5 with
    | agg vs _ hl hr =>
      obtain ⟨v, g1, g2⟩ := run_part (P := P) (e := f.type) ⟨⟨de, inf, h4⟩⟩ hl hr hd
      refine ⟨v, ?_, g2⟩
      subst h3
      simp only [execOp, ho, hv, Instr.field, Sem.run_bind, run_underlying h1, Result.andThen_ok, h2, asAgg, Sem.run_pure, g1]

theorem QOp_index {t len n : Nat} {ag : Bool} {x ix : Operand} {k : IntKind} {i : Int} {cs : List D} {d : D} [ht : TArr P t len n ag] (ho : o.op = .index t x ix) (hx : s.ev x = .agg cs) (hi : s.ev ix = .int k i)
    (h0 : 0 ≤ i ∧ i < len) (hd : partD ag n (cs.drop (i.toNat * n)) = some d) : QOp P o s d :=
  QOp_pure fun E a w h _ => by
    obtain ⟨e, h1, ⟨de, inf, h4⟩⟩ := ht.out
    have h5 : Rep E w (a.eval x) (.agg cs) := hx ▸ h x (by simp [ho, Op.operands])
    have h6 : a.eval ix = .int k i := Rep.int_inv (hi ▸ h ix (by simp [ho, Op.operands]))
    generalize hv : a.eval x = v at h5
    cases h5 with
    | agg vs _ hl hr =>
      obtain ⟨v, g1, g2⟩ := run_part (P := P) (e := e) ⟨⟨de, inf, h4⟩⟩ hl hr hd
      refine ⟨v, ?_, g2⟩
      simp only [execOp, ho, hv, h6, Instr.index, asIntOf, Sem.run_bind, run_underlying h1, Result.andThen_ok, Sem.run_pure, if_pos h0, run_sizeOf (n := n) ⟨inf, h4.2.2.1, h4.2.2.2.1⟩, g1]

/-! addresses and loads -/
theorem run_fieldPlace {b off : Nat} {w : World} {f : Field} {n : Nat} (hf : TyN P f.type n) (hn : 0 < n) : (fieldPlace ⟨b, off, none⟩ f).run P w = .ok ⟨b, off + f.offset, none⟩ w := by
  simp only [fieldPlace, Sem.run_bind, run_sizeOf hf, Result.andThen_ok, if_neg (show n ≠ 0 by omega), Sem.run_pure, addr_add]
theorem QOp_fieldAddr_p {t i off n id g o1 : Nat} {ag : Bool} {x : Operand} [ht : TFld P t i off n ag] (ho : o.op = .fieldAddr t x i) (hx : s.ev x = .ptr id g o1) (hl : curOf s.loc id = some g) : QOp P o s (.ptr id g (o1 + off)) :=
  QOp_pure fun E a w h hm => by
    obtain ⟨fs, f, de, inf, h1, h2, h3, _, _, h6, h7, h8⟩ := ht.out
    have h5 : Rep E w (a.eval x) (.ptr id g o1) := hx ▸ h x (by simp [ho, Op.operands])
    generalize hv : a.eval x = v at h5
    cases h5 with
    | ptr _ _ _ _ k1 k2 k3 =>
      obtain ⟨b, cap, k4, rfl⟩ := k3 (by rw [hm.c]; exact hl)
      subst h3
      refine ⟨.pointer (some ⟨b, o1 + f.offset, none⟩), ?_, .ptr _ id g _ k1 k2 fun _ => ⟨b, cap, k4, rfl⟩⟩
      simp [execOp, ho, hv, Instr.fieldAt, run_underlying h1, h2, Instr.sureAddr, run_fieldPlace (P := P) (f := f) ⟨inf, h6, h7⟩ h8]
theorem drop_cells {E : Env} {w : World} {b off : Nat} {f : Nat → Value} {ds : List D} (j : Nat) (h4 : ds ≠ [] → E.S b)
    (h5 : ∀ (i : Nat) d, ds[i]? = some d → w.cell? ⟨b, off + i, none⟩ = some (f i)) (h6 : ∀ (i : Nat) d, ds[i]? = some d → Rep E w (f i) d) (h7 : D.freeAll ds = true) : Rep E w (.pointer (some ⟨b, off + j, none⟩)) (.sptr (ds.drop j)) := by
  refine .sptr b (off + j) _ (fun i => f (j + i)) (fun hn => h4 (by rintro rfl; simp at hn)) (fun i d hd => ?_) (fun i d hd => ?_) ((D.freeAll_iff _).2 fun d hd => (D.freeAll_iff _).1 h7 d (List.mem_of_mem_drop hd))
  · rw [List.getElem?_drop] at hd
    have := h5 _ d hd
    rwa [← Nat.add_assoc] at this
  · rw [List.getElem?_drop] at hd
    exact h6 _ d hd
theorem QOp_fieldAddr_s {t i off n : Nat} {ag : Bool} {x : Operand} {cs : List D} [ht : TFld P t i off n ag] (ho : o.op = .fieldAddr t x i) (hx : s.ev x = .sptr cs) : QOp P o s (.sptr (cs.drop off)) :=
  QOp_pure fun E a w h hm => by
    obtain ⟨fs, f, de, inf, h1, h2, h3, _, _, h6, h7, h8⟩ := ht.out
    have h5 : Rep E w (a.eval x) (.sptr cs) := hx ▸ h x (by simp [ho, Op.operands])
    generalize hv : a.eval x = v at h5
    cases h5 with
    | sptr b off0 _ f0 k4 k5 k6 k7 =>
      subst h3
      refine ⟨.pointer (some ⟨b, off0 + f.offset, none⟩), ?_, drop_cells _ k4 k5 k6 k7⟩
      simp [execOp, ho, hv, Instr.fieldAt, run_underlying h1, h2, Instr.sureAddr, run_fieldPlace (P := P) (f := f) ⟨inf, h6, h7⟩ h8]

/-- A slice, told in cells. -/
def slCells (L : Loc) : D → Option (Nat × Nat × List D)
  | .slc es ds => if 0 < es then some (es, ds.length / es, ds) else none
  | .ms id g off es len => match L[id]? with
    | some (some B) => if B.cells.length = g ∧ off + len * es ≤ g then some (es, len, (B.cells.drop off).take (len * es)) else none
    | _ => none
  | .row id g es len => match L[id]? with
    | some (some B) => if B.cells.length = g ∧ len * es = g then some (es, len, B.cells) else none
    | _ => none
  | _ => none

theorem box_cells {E : Env} {L : Loc} {w : World} {id : Nat} {B : Box} {b cap : Nat} (hm : MemSim E L w) (hB : L[id]? = some (some B)) (hβ : E.β id = some (b, cap)) :
    ∃ f : Nat → Value, ∀ (i : Nat) d, B.cells[i]? = some d → w.cell? ⟨b, i, none⟩ = some (f i) ∧ Rep E w (f i) d := by
  rcases hm.box id B hB with ⟨h4, _⟩ | ⟨b', cap', cur, t, h4, _, _, h5, h6, _, h7⟩
  · rw [hβ] at h4; simp at h4
  · rw [hβ] at h4
    simp only [Option.some.injEq, Prod.mk.injEq] at h4
    obtain ⟨rfl, rfl⟩ := h4
    refine ⟨fun i => cur.getD i undef, fun i d hd => ?_⟩
    have hlt : i < cur.size := Nat.lt_of_lt_of_le (List.getElem?_eq_some_iff.1 hd).1 h6
    have hcell : cur[i]? = some (cur.getD i undef) := by simp [hlt]
    exact ⟨by rw [cell_of_row w b i cur t (0, 0) h5]; exact hcell, h7 _ _ _ hcell hd⟩

theorem sl_rep {E : Env} {L : Loc} {w : World} {v : Value} {d : D} {es len : Nat} {cs : List D} (hm : MemSim E L w) (hr : Rep E w v d) (hc : slCells L d = some (es, len, cs)) :
    ∃ (a : Option Addr) (b off cap : Nat) (f : Nat → Value), v = .slice a len cap ∧ cs.length = len * es ∧ len ≤ cap ∧ (cs ≠ [] → a = some ⟨b, off, none⟩) ∧
      ∀ (i : Nat) d, cs[i]? = some d → w.cell? ⟨b, off + i, none⟩ = some (f i) ∧ Rep E w (f i) d := by
  cases hr with
  | slc a len0 cap es0 ds b off f h1 h2 h3 h4 h5 h6 _ =>
    simp only [slCells] at hc
    split at hc
    · rename_i hes
      simp only [Option.some.injEq, Prod.mk.injEq] at hc
      obtain ⟨rfl, e2, rfl⟩ := hc
      rw [h1, Nat.mul_div_cancel _ hes] at e2
      subst e2
      exact ⟨a, b, off, cap, f, rfl, h1, h2, fun hn => (h4 hn).1, fun i d hd => ⟨h5 i d hd, h6 i d hd⟩⟩
    · simp at hc
  | ms _ id g off es0 len0 h1 h2 h3 =>
    simp only [slCells] at hc
    split at hc
    · rename_i B hB
      split at hc
      · rename_i hg
        simp only [Option.some.injEq, Prod.mk.injEq] at hc
        obtain ⟨rfl, rfl, rfl⟩ := hc
        have hcur := hm.c id
        rw [curOf_some hB, hg.1] at hcur
        obtain ⟨b, cap0, cap, hβ, rfl, hle⟩ := h3 hcur
        obtain ⟨f, hf⟩ := box_cells hm hB hβ
        refine ⟨some ⟨b, off, none⟩, b, off, cap, fun i => f (off + i), rfl, by simp; omega, hle, fun _ => rfl, fun i d hd => ?_⟩
        rw [List.getElem?_take] at hd
        split at hd
        · rw [List.getElem?_drop] at hd; exact hf _ d hd
        · simp at hd
      · simp at hc
    · simp at hc
  | row _ id g es0 len0 h1 h2 h3 =>
    simp only [slCells] at hc
    split at hc
    · rename_i B hB
      split at hc
      · rename_i hg
        simp only [Option.some.injEq, Prod.mk.injEq] at hc
        obtain ⟨rfl, rfl, rfl⟩ := hc
        have hcur := hm.c id
        rw [curOf_some hB, hg.1] at hcur
        rcases h3 hcur with ⟨hβ, rfl, a, rfl⟩ | ⟨b, cap, hβ, rfl, hle⟩
        · rcases hm.box id B hB with ⟨_, h5, _⟩ | ⟨b', cap', cur, t, h4, _⟩
          · exact ⟨a, 0, 0, 0, fun _ => undef, rfl, by simp [h5], Nat.le_refl _, fun hn => absurd h5 hn, fun i d hd => by simp [h5] at hd⟩
          · rw [hβ] at h4; simp at h4
        · obtain ⟨f, hf⟩ := box_cells hm hB hβ
          exact ⟨some ⟨b, 0, none⟩, b, 0, cap, f, rfl, by rw [hg.1, hg.2], hle, fun _ => rfl, fun i d hd => by simpa using hf i d hd⟩
      · simp at hc
    · simp at hc
  | _ => simp [slCells] at hc

theorem QOp_indexAddr_s {t : Nat} {ag : Bool} {x ix : Operand} {k : IntKind} {i : Int} {es : Nat} {cs : List D} [ht : TSlc P t es ag] (ho : o.op = .indexAddr t x ix) (hx : s.ev x = .slc es cs) (hi : s.ev ix = .int k i)
    (h0 : 0 ≤ i ∧ i.toNat * es + es ≤ cs.length) : QOp P o s (.sptr (cs.drop (i.toNat * es))) :=
  QOp_pure fun E a w h hm => by
    obtain ⟨e, h1, ⟨de, inf, h2, h3, h4, h5, h6⟩⟩ := ht.out
    have h7 : Rep E w (a.eval x) (.slc es cs) := hx ▸ h x (by simp [ho, Op.operands])
    have h8 : a.eval ix = .int k i := Rep.int_inv (hi ▸ h ix (by simp [ho, Op.operands]))
    generalize hv : a.eval x = v at h7
    cases h7 with
    | slc ad len cap _ _ b off f k1 k2 k3 k4 k5 k6 k7 =>
      have hne : cs ≠ [] := by rintro rfl; simp at h0; omega
      obtain ⟨rfl, hS⟩ := k4 hne
      have hlt : i < (len : Int) := by
        have h9 : (i.toNat + 1) * es ≤ len * es := by rw [Nat.add_mul, Nat.one_mul, ← k1]; exact h0.2
        have := Nat.le_of_mul_le_mul_right h9 h6
        omega
      refine ⟨.pointer (some ⟨b, off + i.toNat * es, none⟩), ?_, drop_cells _ (fun _ => hS) k5 k6 k7⟩
      simp [execOp, ho, hv, h8, Instr.indexAt, asIntOf, run_underlying h1, run_sizeOf (P := P) (n := es) ⟨inf, h4, h5⟩, h0.1, hlt, addr_add]
end
end Go.Proofs.YtcgocdcbceeoiaaGreat
