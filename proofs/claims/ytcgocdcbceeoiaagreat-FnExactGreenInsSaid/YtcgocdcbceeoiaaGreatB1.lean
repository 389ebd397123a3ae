/-
  Roads, plans, joints, towns: how they lie in memory; floats compared.
-/
import Derived.Test.YtcgocdcbceeoiaaGreatA15
import Derived.Test.YtcgocdcbceeoiaaGreatTy
namespace Go.Proofs.YtcgocdcbceeoiaaGreat
open Go Go.Proofs
attribute [local irreducible] AW SOps QOps QOp SOp SCall Pure endQ thenQ blockQ Loosens

structure Road where
  cars : Nat → Nat
  pace : Nat
  back : Nat
  lanes : Nat
structure Slot where
  green : Nat → Bool
  ticks : Int
structure Plan where
  slots : List Slot
  between : Int
  offset : Int
structure Junction where
  ins : Int
  outs : Int
  turns : Nat → Nat → Nat
  prior : Nat → Nat
structure Joint where
  j : Junction
  ins : List Int
  outs : List Int
  plan : Int
structure Town where
  roads : List Road
  offered : List Nat
  joints : List Joint
  plans : List Plan
  tick : Int
  came : Nat
  went : Nat

abbrev encFour (f : Nat → Nat) : List D := arr 4 fun i => F (f i)
abbrev encFlows (m : Nat → Nat → Nat) : List D := (List.range 4).flatMap fun i => encFour (m i)
abbrev encCars (f : Nat → Nat) : List D := arr 16 fun i => F (f i)
abbrev encPhase (f : Nat → Bool) : List D := arr 8 fun i => .bool (f i)
def encRoad (r : Road) : List D := encCars r.cars ++ [F r.pace, F r.back, F r.lanes]
def encSlot (s : Slot) : List D := encPhase s.green ++ [I s.ticks]
def encPlan (p : Plan) : List D := [sl 9 encSlot p.slots, I p.between, I p.offset]
def encJunction (j : Junction) : List D := [I j.ins, I j.outs] ++ encFlows j.turns ++ encFour j.prior
def encJoint (j : Joint) : List D := encJunction j.j ++ [sl 1 (one1 I) j.ins, sl 1 (one1 I) j.outs, I j.plan]
def encTown (t : Town) : List D := [sl 19 encRoad t.roads, sl 1 (one1 F) t.offered, sl 25 encJoint t.joints, sl 3 encPlan t.plans, I t.tick, F t.came, F t.went]

theorem encRoad_length (r : Road) : (encRoad r).length = 19 := rfl
theorem encSlot_length (s : Slot) : (encSlot s).length = 9 := rfl
theorem encPlan_length (p : Plan) : (encPlan p).length = 3 := rfl
theorem encJunction_length (j : Junction) : (encJunction j).length = 22 := rfl
theorem encJoint_length (j : Joint) : (encJoint j).length = 25 := rfl
theorem encTown_length (t : Town) : (encTown t).length = 7 := rfl

theorem free_append {a b : List D} (h : D.freeAll a = true) (k : D.freeAll b = true) : D.freeAll (a ++ b) = true := by
  rw [D.freeAll_iff] at *
  intro d hd
  rcases List.mem_append.1 hd with h' | h'
  · exact h d h'
  · exact k d h'
theorem free_flat {α : Type} {enc : α → List D} (h : ∀ x, D.freeAll (enc x) = true) (xs : List α) : D.freeAll (xs.flatMap enc) = true := by
  rw [D.freeAll_iff]
  intro d hd
  obtain ⟨x, _, hx⟩ := List.mem_flatMap.1 hd
  exact (D.freeAll_iff _).1 (h x) d hx
theorem free_arr {n : Nat} {f : Nat → D} (h : ∀ i, (f i).free = true) : D.freeAll (arr n f) = true := by
  rw [D.freeAll_iff]
  intro d hd
  obtain ⟨i, _, rfl⟩ := List.mem_map.1 hd
  exact h i
theorem encFour_free (f : Nat → Nat) : D.freeAll (encFour f) = true := free_arr fun _ => rfl
theorem encCars_free (f : Nat → Nat) : D.freeAll (encCars f) = true := free_arr fun _ => rfl
theorem encPhase_free (f : Nat → Bool) : D.freeAll (encPhase f) = true := free_arr fun _ => rfl
theorem encFlows_free (m : Nat → Nat → Nat) : D.freeAll (encFlows m) = true := free_flat (fun _ => encFour_free _) _
theorem encRoad_free (r : Road) : D.freeAll (encRoad r) = true := rfl
theorem encSlot_free (s : Slot) : D.freeAll (encSlot s) = true := rfl
theorem encPlan_free (p : Plan) : D.freeAll (encPlan p) = true := rfl
theorem encJunction_free (j : Junction) : D.freeAll (encJunction j) = true := rfl
theorem encJoint_free (j : Joint) : D.freeAll (encJoint j) = true := rfl
theorem encTown_free (t : Town) : D.freeAll (encTown t) = true := rfl

/-- The bits of a float, all NaN alike. -/
def bits32 (m : Nat) : Nat := if isNanB .f32 m then 2143289344 else m
def fsame (a b : Nat) : Bool := bits32 a == bits32 b

class Zero1 (α : Type) where
  zero1 : α → α
instance : Zero1 Nat := ⟨fun _ => 0⟩
instance : Zero1 Bool := ⟨fun _ => false⟩
theorem beq_cast (x y : Nat) : ((x : Int) == (y : Int)) = (x == y) := by rw [Bool.eq_iff_iff]; simp; omega

theorem car_at (r : Road) (rest : List D) {k : Nat} (h : k < 16) {j : Nat} (hj : j = k) : partD false 1 ((encRoad r ++ rest).drop j) = some (F (r.cars k)) := by
  subst hj
  have : j = 0 ∨ j = 1 ∨ j = 2 ∨ j = 3 ∨ j = 4 ∨ j = 5 ∨ j = 6 ∨ j = 7 ∨ j = 8 ∨ j = 9 ∨ j = 10 ∨ j = 11 ∨ j = 12 ∨ j = 13 ∨ j = 14 ∨ j = 15 := by omega
  rcases this with rfl | rfl | rfl | rfl | rfl | rfl | rfl | rfl | rfl | rfl | rfl | rfl | rfl | rfl | rfl | rfl <;> rfl
end Go.Proofs.YtcgocdcbceeoiaaGreat
