/-
  The rules of the walk in the forms that the walking text uses.
-/
import Derived.Test.YtcgocdcbceeoiaaGreatA7
namespace Go.Proofs.YtcgocdcbceeoiaaGreat
open Go
section
variable {P : Program} {ops : Array Oper} {l : List Oper} {K : St → Prop} {s : St} {dst : Option Tmp} {op : Op} {ty : TypeId} {pos : String} {after : Array Edge} {guard : Option (Nat × Bool)}

def dOk (dst : Option Tmp) (s : St) : Bool :=
  match dst with
  | some i => decide (i < s.sz)
  | none => true

theorem S_q {d : D} (g : Guard ops s ⟨dst, op, ty, pos, after, guard⟩ true) (hq : QOp P ⟨dst, op, ty, pos, after, guard⟩ s d) (hd : dOk dst s = true) (h : SOps P ops l K (s.put dst d)) : SOps P ops (⟨dst, op, ty, pos, after, guard⟩ :: l) K s :=
  SOps_q g hq hd h
theorem S_f (g : Guard ops s ⟨dst, op, ty, pos, after, guard⟩ false) (hd : dOk dst s = true) (h : SOps P ops l K (s.put dst (.tup []))) : SOps P ops (⟨dst, op, ty, pos, after, guard⟩ :: l) K s := SOps_f g hd h
theorem S_m (g : Guard ops s ⟨dst, op, ty, pos, after, guard⟩ true) (h : SOp P ⟨dst, op, ty, pos, after, guard⟩ (SOps P ops l K) s) : SOps P ops (⟨dst, op, ty, pos, after, guard⟩ :: l) K s := SOps_m g h
theorem D_q {d : D} (g : Guard ops s ⟨dst, op, ty, pos, after, guard⟩ true) (hq : QOp P ⟨dst, op, ty, pos, after, guard⟩ s d) (hd : dOk dst s = true) (h : QOps P ops l K (s.put dst d)) : QOps P ops (⟨dst, op, ty, pos, after, guard⟩ :: l) K s :=
  QOps_q g hq hd h
theorem D_f (g : Guard ops s ⟨dst, op, ty, pos, after, guard⟩ false) (hd : dOk dst s = true) (h : QOps P ops l K (s.put dst (.tup []))) : QOps P ops (⟨dst, op, ty, pos, after, guard⟩ :: l) K s := QOps_f g hd h
/-- The guard's Bool is not known: both ways. -/
theorem S_split {j : Nat} {gb : Bool} {t : Tmp} {b : Bool} (_hj : gslot ops j = some t) (ht : s.get t = .bool b)
    (h1 : b = true → SOps P ops (⟨dst, op, ty, pos, after, some (j, gb)⟩ :: l) K (s.put (some t) (.bool true)))
    (h0 : b = false → SOps P ops (⟨dst, op, ty, pos, after, some (j, gb)⟩ :: l) K (s.put (some t) (.bool false))) : SOps P ops (⟨dst, op, ty, pos, after, some (j, gb)⟩ :: l) K s :=
  SOps_split t ht h1 h0
theorem D_split {j : Nat} {gb : Bool} {t : Tmp} {b : Bool} (_hj : gslot ops j = some t) (ht : s.get t = .bool b)
    (h1 : b = true → QOps P ops (⟨dst, op, ty, pos, after, some (j, gb)⟩ :: l) K (s.put (some t) (.bool true)))
    (h0 : b = false → QOps P ops (⟨dst, op, ty, pos, after, some (j, gb)⟩ :: l) K (s.put (some t) (.bool false))) : QOps P ops (⟨dst, op, ty, pos, after, some (j, gb)⟩ :: l) K s :=
  QOps_split t ht h1 h0
end

section
variable {P : Program} {o : Oper} {s : St}
def mvOf : Op → Option Operand
  | .move x | .assign x => some x
  | _ => none
theorem Q_mv {x : Operand} {d : D} (ho : mvOf o.op = some x) (hd : s.ev x = d) : QOp P o s d := by
  subst hd
  obtain ⟨dst, op, ty, pos, after, guard⟩ := o
  cases op <;> simp only [mvOf, Option.some.injEq, reduceCtorEq] at ho
  · subst ho; exact QOp_move rfl
  · subst ho; exact QOp_assign rfl
theorem Q_mv_int {x : Operand} {k : IntKind} {n : Int} (ho : mvOf o.op = some x) (hd : s.ev x = .int k n) : QOp P o s (.int k n) := Q_mv ho hd
theorem Q_mv_bool {x : Operand} {b : Bool} (ho : mvOf o.op = some x) (hd : s.ev x = .bool b) : QOp P o s (.bool b) := Q_mv ho hd
theorem Q_mv_flt {x : Operand} {k : FloatKind} {n : Nat} (ho : mvOf o.op = some x) (hd : s.ev x = .flt k n) : QOp P o s (.flt k n) := Q_mv ho hd
theorem Q_mv_str {x : Operand} {b : ByteArray} (ho : mvOf o.op = some x) (hd : s.ev x = .str b) : QOp P o s (.str b) := Q_mv ho hd
theorem Q_mv_agg {x : Operand} {cs : List D} (ho : mvOf o.op = some x) (hd : s.ev x = .agg cs) : QOp P o s (.agg cs) := Q_mv ho hd
theorem Q_mv_tup {x : Operand} {cs : List D} (ho : mvOf o.op = some x) (hd : s.ev x = .tup cs) : QOp P o s (.tup cs) := Q_mv ho hd
theorem Q_mv_slc {x : Operand} {es : Nat} {cs : List D} (ho : mvOf o.op = some x) (hd : s.ev x = .slc es cs) : QOp P o s (.slc es cs) := Q_mv ho hd
theorem Q_mv_emp {x : Operand} (ho : mvOf o.op = some x) (hd : s.ev x = .emp) : QOp P o s .emp := Q_mv ho hd
theorem Q_mv_sptr {x : Operand} {cs : List D} (ho : mvOf o.op = some x) (hd : s.ev x = .sptr cs) : QOp P o s (.sptr cs) := Q_mv ho hd
theorem Q_mv_ptr {x : Operand} {i g k : Nat} (ho : mvOf o.op = some x) (hd : s.ev x = .ptr i g k) : QOp P o s (.ptr i g k) := Q_mv ho hd
theorem Q_mv_ms {x : Operand} {i g k e n : Nat} (ho : mvOf o.op = some x) (hd : s.ev x = .ms i g k e n) : QOp P o s (.ms i g k e n) := Q_mv ho hd
theorem Q_mv_row {x : Operand} {i g e n : Nat} (ho : mvOf o.op = some x) (hd : s.ev x = .row i g e n) : QOp P o s (.row i g e n) := Q_mv ho hd
theorem Q_mv_fn {x : Operand} {f : FuncId} {cs : List D} (ho : mvOf o.op = some x) (hd : s.ev x = .fn f cs) : QOp P o s (.fn f cs) := Q_mv ho hd
theorem Q_mv_ni {x : Operand} (ho : mvOf o.op = some x) (hd : s.ev x = .nilIface) : QOp P o s .nilIface := Q_mv ho hd
theorem Q_mv_if {x : Operand} {t : TypeId} {d : D} (ho : mvOf o.op = some x) (hd : s.ev x = .iface t d) : QOp P o s (.iface t d) := Q_mv ho hd
theorem Q_pick_t {c x y : Operand} {d : D} (ho : o.op = .pick c x y) (hc : s.ev c = .bool true) (hd : s.ev x = d) : QOp P o s d := hd ▸ QOp_pick (g := true) ho hc
theorem Q_pick_f {c x y : Operand} {d : D} (ho : o.op = .pick c x y) (hc : s.ev c = .bool false) (hd : s.ev y = d) : QOp P o s d := hd ▸ QOp_pick (g := false) ho hc
theorem Q_pick_tb {c x y : Operand} {b : Bool} (ho : o.op = .pick c x y) (hc : s.ev c = .bool true) (hd : s.ev x = .bool b) : QOp P o s (.bool b) := Q_pick_t ho hc hd
theorem Q_pick_fb {c x y : Operand} {b : Bool} (ho : o.op = .pick c x y) (hc : s.ev c = .bool false) (hd : s.ev y = .bool b) : QOp P o s (.bool b) := Q_pick_f ho hc hd
end
end Go.Proofs.YtcgocdcbceeoiaaGreat
