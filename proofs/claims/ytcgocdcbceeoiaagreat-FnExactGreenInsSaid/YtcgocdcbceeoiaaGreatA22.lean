/-
  Floats that are neither NaN nor below zero; comparisons of numbers.
-/
import Derived.Test.YtcgocdcbceeoiaaGreatA19
namespace Go.Proofs.YtcgocdcbceeoiaaGreat
open Go

/-- Neither a NaN nor with a minus sign. -/
def nn (m : Nat) : Bool := match FloatKind.f32.decode m with
  | .number s _ _ => !s
  | .infinity s => !s
  | .nan .. => false
theorem nn_of_amt {m : Nat} (h : isAmt m = true) : nn m = true := by
  unfold isAmt at h
  unfold nn
  split at h <;> simp_all
theorem nn_not_nan {m : Nat} (h : nn m = true) : isNanB .f32 m = false := by
  unfold nn at h
  unfold isNanB
  split at h <;> simp_all [Ieee.Datum.isNaN]
theorem nn_read {r : Nat} (h : r ≤ 2139095040) : nn r = true := by
  have e1 : Ieee.single.signWeight = 2147483648 := by decide
  have e2 : Ieee.single.infRung = 2139095040 := by decide
  have e3 : Ieee.single.binade = 8388608 := by decide
  unfold nn
  have hd : FloatKind.f32.decode r = Ieee.single.read r := rfl
  rw [hd]
  unfold Ieee.Format.read
  simp only [e1, e2, e3]
  have h1 : r / 2147483648 % 2 = 0 := by omega
  have h2 : r % 2147483648 = r := by omega
  rw [h1, h2]
  by_cases c1 : r < 8388608
  · simp [c1]
  · by_cases c2 : r < 2139095040
    · simp [c1, c2]
    · have c3 : r = 2139095040 := by omega
      simp [c3]
theorem nn_write {d : Ieee.Datum} (h : (∃ m p, d = .number false m p) ∨ d = .infinity false) : nn (canon .f32 (FloatKind.f32.format.write d)) = true := by
  have key : ∃ r, FloatKind.f32.format.write d = r ∧ r ≤ 2139095040 := by
    rcases h with ⟨m, p, rfl⟩ | rfl
    · obtain ⟨r, e, hr⟩ := nearest_word Ieee.single false m p
      refine ⟨r, ?_, hr⟩
      show Ieee.single.nearest false m p = r
      rw [e]; simp [Ieee.Format.word]
    · exact ⟨2139095040, by decide, by omega⟩
  obtain ⟨r, e, hr⟩ := key
  rw [e]
  have h1 := nn_read hr
  rw [canon_not (nn_not_nan h1)]
  exact h1
theorem nn_add {a b : Nat} (ha : nn a = true) (hb : nn b = true) : nn (fop .add .f32 a b) = true := by
  unfold fop rawOp
  show nn (fres .f32 (((FloatKind.f32.decode a).sum (FloatKind.f32.decode b)).map FloatKind.f32.format.write)) = true
  unfold nn at ha hb
  cases h1 : FloatKind.f32.decode a with
  | nan => rw [h1] at ha; cases ha
  | infinity s =>
    rw [h1] at ha
    cases h2 : FloatKind.f32.decode b with
    | nan => rw [h2] at hb; cases hb
    | infinity t =>
      rw [h2] at hb
      simp at ha hb
      subst ha; subst hb
      exact nn_write (.inr rfl)
    | number t n j =>
      simp at ha
      subst ha
      exact nn_write (.inr rfl)
  | number s m i =>
    rw [h1] at ha
    cases h2 : FloatKind.f32.decode b with
    | nan => rw [h2] at hb; cases hb
    | infinity t =>
      rw [h2] at hb
      simp at hb
      subst hb
      exact nn_write (.inr rfl)
    | number t n j =>
      rw [h2] at hb
      simp at ha hb
      subst ha; subst hb
      simp only [Ieee.Datum.sum, Option.map_some, fres, Ieee.signed, Bool.false_eq_true, if_false, Bool.and_self]
      have hs : ∀ x y : Nat, (if ((x : Int) + (y : Int)) = 0 then false else decide (((x : Int) + (y : Int)) < 0)) = false := fun x y => by
        split
        · rfl
        · simp only [decide_eq_false_iff_not]
          omega
      rw [hs]
      exact nn_write (.inl ⟨_, _, rfl⟩)
theorem order_some {a b : Nat} (ha : isNanB .f32 a = false) (hb : isNanB .f32 b = false) : ∃ c, FloatKind.f32.format.order a b = some c := by
  show ∃ c, (FloatKind.f32.decode a).order (FloatKind.f32.decode b) = some c
  unfold isNanB at ha hb
  cases h1 : FloatKind.f32.decode a with
  | nan => rw [h1] at ha; cases ha
  | infinity s =>
    cases h2 : FloatKind.f32.decode b with
    | nan => rw [h2] at hb; cases hb
    | infinity t => exact ⟨_, rfl⟩
    | number t n j => exact ⟨_, rfl⟩
  | number s m i =>
    cases h2 : FloatKind.f32.decode b with
    | nan => rw [h2] at hb; cases hb
    | infinity t => exact ⟨_, rfl⟩
    | number t n j => exact ⟨_, rfl⟩
theorem flt_not {a b : Nat} (ha : isNanB .f32 a = false) (hb : isNanB .f32 b = false) : flt' .f32 a b = !fge .f32 a b := by
  obtain ⟨c, h⟩ := order_some ha hb
  unfold flt' fge
  rw [h]
  cases c <;> rfl
theorem fgt_not {a b : Nat} (ha : isNanB .f32 a = false) (hb : isNanB .f32 b = false) : fgt .f32 a b = !fle .f32 a b := by
  obtain ⟨c, h⟩ := order_some ha hb
  unfold fgt fle
  rw [h]
  cases c <;> rfl
/-- Nothing: zero without a sign. -/
def isZer (m : Nat) : Bool := isAmt m && feq .f32 m 0
end Go.Proofs.YtcgocdcbceeoiaaGreat
