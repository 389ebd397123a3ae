/-
  The rules for regions that draw their order and change variables, in the forms that the walking text uses.
-/
import Derived.Test.YtcgocdcbceeoiaaGreatA24
namespace Go.Proofs.YtcgocdcbceeoiaaGreat
open Go
def lsOf (l : List Loc) (k : Nat) : Loc := l.getD k []
section
variable {P : Program} {ops : Array Oper} {l : List Oper} {K : St → Prop} {s : St} {dst : Option Tmp} {op : Op} {ty : TypeId} {pos : String} {after : Array Edge} {guard : Option (Nat × Bool)} {Ls : Nat → Loc} {h n i j k : Nat}
theorem H1_q {d : D} (g : Guard ops s ⟨dst, op, ty, pos, after, guard⟩ true) (hn : [i].contains n = false) (h0 : never ops.toList [i] n 0 = true ∨ QOp P ⟨dst, op, ty, pos, after, guard⟩ { s with loc := Ls 0 } d) (h1 : never ops.toList [i] n 1 = true ∨ QOp P ⟨dst, op, ty, pos, after, guard⟩ { s with loc := Ls 1 } d)
    (hd : dOk dst s = true) (e : HOps P ops Ls [i] h (n + 1) l K (s.put dst d)) : HOps P ops Ls [i] h n (⟨dst, op, ty, pos, after, guard⟩ :: l) K s :=
  HOps_q g hn (fun k hk => by
    match k, hk with
    | 0, _ => exact h0
    | 1, _ => exact h1
    | k + 2, hk => exact absurd hk (by simp)) hd e
theorem H2_q {d : D} (g : Guard ops s ⟨dst, op, ty, pos, after, guard⟩ true) (hn : [i, j].contains n = false) (h0 : never ops.toList [i, j] n 0 = true ∨ QOp P ⟨dst, op, ty, pos, after, guard⟩ { s with loc := Ls 0 } d) (h1 : never ops.toList [i, j] n 1 = true ∨ QOp P ⟨dst, op, ty, pos, after, guard⟩ { s with loc := Ls 1 } d) (h2 : never ops.toList [i, j] n 2 = true ∨ QOp P ⟨dst, op, ty, pos, after, guard⟩ { s with loc := Ls 2 } d)
    (hd : dOk dst s = true) (e : HOps P ops Ls [i, j] h (n + 1) l K (s.put dst d)) : HOps P ops Ls [i, j] h n (⟨dst, op, ty, pos, after, guard⟩ :: l) K s :=
  HOps_q g hn (fun k hk => by
    match k, hk with
    | 0, _ => exact h0
    | 1, _ => exact h1
    | 2, _ => exact h2
    | k + 3, hk => exact absurd hk (by simp)) hd e
theorem H4_q {i1 i2 i3 i4 : Nat} {d : D} (g : Guard ops s ⟨dst, op, ty, pos, after, guard⟩ true) (hn : [i1, i2, i3, i4].contains n = false) (h0 : never ops.toList [i1, i2, i3, i4] n 0 = true ∨ QOp P ⟨dst, op, ty, pos, after, guard⟩ { s with loc := Ls 0 } d) (h1 : never ops.toList [i1, i2, i3, i4] n 1 = true ∨ QOp P ⟨dst, op, ty, pos, after, guard⟩ { s with loc := Ls 1 } d) (h2 : never ops.toList [i1, i2, i3, i4] n 2 = true ∨ QOp P ⟨dst, op, ty, pos, after, guard⟩ { s with loc := Ls 2 } d)
    (h3 : never ops.toList [i1, i2, i3, i4] n 3 = true ∨ QOp P ⟨dst, op, ty, pos, after, guard⟩ { s with loc := Ls 3 } d) (h4 : never ops.toList [i1, i2, i3, i4] n 4 = true ∨ QOp P ⟨dst, op, ty, pos, after, guard⟩ { s with loc := Ls 4 } d)
    (hd : dOk dst s = true) (e : HOps P ops Ls [i1, i2, i3, i4] h (n + 1) l K (s.put dst d)) : HOps P ops Ls [i1, i2, i3, i4] h n (⟨dst, op, ty, pos, after, guard⟩ :: l) K s :=
  HOps_q g hn (fun k hk => by
    match k, hk with
    | 0, _ => exact h0
    | 1, _ => exact h1
    | 2, _ => exact h2
    | 3, _ => exact h3
    | 4, _ => exact h4
    | k + 5, hk => exact absurd hk (by simp)) hd e
theorem HH_f {hp : List Nat} (g : Guard ops s ⟨dst, op, ty, pos, after, guard⟩ false) (hn : hp.contains n = false) (hd : dOk dst s = true) (e : HOps P ops Ls hp h (n + 1) l K (s.put dst (.tup []))) : HOps P ops Ls hp h n (⟨dst, op, ty, pos, after, guard⟩ :: l) K s := HOps_f g hn hd e
theorem HH_x {hp : List Nat} {d : D} (g : Guard ops s ⟨dst, op, ty, pos, after, guard⟩ true) (hn : hp[h]? = some n) (hq : HOp P ⟨dst, op, ty, pos, after, guard⟩ { s with loc := Ls h } (Ls (h + 1)) d) (hd : dOk dst s = true) (e : HOps P ops Ls hp (h + 1) (n + 1) l K (s.put dst d)) : HOps P ops Ls hp h n (⟨dst, op, ty, pos, after, guard⟩ :: l) K s := HOps_x g hn hq hd e
end
end Go.Proofs.YtcgocdcbceeoiaaGreat
