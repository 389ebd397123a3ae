/-
  Plain facts on floats: finite, amounts, signs.
-/
import Derived.Test.YtcgocdcbceeoiaaGreatA18
namespace Go.Proofs.YtcgocdcbceeoiaaGreat
open Go

theorem decode_zero : FloatKind.f32.decode 0 = .number false 0 (-149) := by decide
/-- A number that is neither infinite nor a NaN. -/
def isNum (m : Nat) : Bool := match FloatKind.f32.decode m with
  | .number .. => true
  | _ => false
/-- A number that is no NaN, not infinite, and bears no minus. -/
def isAmt (m : Nat) : Bool := match FloatKind.f32.decode m with
  | .number s _ _ => !s
  | _ => false
theorem feq_zero_zero : feq .f32 0 0 = true := by decide
theorem word_zero : FloatKind.f32.format.write (.number false 0 0) = 0 := by decide
theorem sub_self_num {m : Nat} {s : Bool} {g : Nat} {p : Int} (h : FloatKind.f32.decode m = .number s g p) : fop .sub .f32 m m = 0 := by
  unfold fop rawOp Ieee.Format.sub
  have h' : FloatKind.f32.format.read m = .number s g p := h
  rw [h']
  have hs : Ieee.Datum.sum (.number s g p) (Ieee.Datum.opposite (.number s g p)) = some (.number false 0 p) := by
    simp only [Ieee.Datum.opposite, Ieee.Datum.sum, Ieee.signed]
    cases s <;> simp <;> omega
  rw [hs]
  have hw : FloatKind.f32.format.write (.number false 0 p) = 0 := by
    simp [Ieee.Format.write, Ieee.Format.nearest, Ieee.Format.word]
  simp only [Option.map_some, hw, fres]
  decide
theorem sub_self_not {m : Nat} (h : isNum m = false) : fop .sub .f32 m m = nanB .f32 := by
  unfold fop rawOp Ieee.Format.sub
  unfold isNum at h
  change (match FloatKind.f32.format.read m with | .number .. => true | _ => false) = false at h
  generalize FloatKind.f32.format.read m = d at *
  cases d with
  | number => cases h
  | infinity s => cases s <;> rfl
  | nan s t => rfl
theorem finite_iff (m : Nat) : feq .f32 (fop .sub .f32 m m) 0 = isNum m := by
  cases h : isNum m with
  | false => rw [sub_self_not h]; decide
  | true =>
    have : ∃ s g p, FloatKind.f32.decode m = .number s g p := by
      unfold isNum at h
      cases hd : FloatKind.f32.decode m with
      | number s g p => exact ⟨s, g, p, rfl⟩
      | infinity => rw [hd] at h; cases h
      | nan => rw [hd] at h; cases h
    obtain ⟨s, g, p, hd⟩ := this
    rw [sub_self_num hd]; exact feq_zero_zero

theorem order_zero {m : Nat} {s : Bool} {g : Nat} {p : Int} (h : FloatKind.f32.decode m = .number s g p) : FloatKind.f32.format.order m 0 = some (if g = 0 then .eq else if s then .lt else .gt) := by
  show (FloatKind.f32.decode m).order (FloatKind.f32.decode 0) = _
  rw [h, decode_zero]
  simp only [Ieee.Datum.order, Ieee.signed]
  congr 1
  have h2 : (if false = true then -((0 <<< ((-149 : Int) - min p (-149)).toNat : Nat) : Int) else ((0 <<< ((-149 : Int) - min p (-149)).toNat : Nat) : Int)) = 0 := by simp
  rw [h2]
  have hpow : 0 < 2 ^ (p - min p (-149)).toNat := Nat.pow_pos (by decide)
  have hz : g = 0 → g <<< (p - min p (-149)).toNat = 0 := fun e => by simp [e]
  have hnz : g ≠ 0 → 0 < g <<< (p - min p (-149)).toNat := fun e => by rw [Nat.shiftLeft_eq]; exact Nat.mul_pos (by omega) hpow
  generalize g <<< (p - min p (-149)).toNat = y at *
  by_cases e : g = 0
  · have := hz e
    subst this
    rw [if_pos e]
    cases s <;> simp <;> rfl
  · have := hnz e
    rw [if_neg e]
    cases s
    · simp only [Bool.false_eq_true, if_false]
      exact Int.compare_eq_gt.2 (by omega)
    · simp only [if_true]
      exact Int.compare_eq_lt.2 (by omega)
theorem fge_zero {m : Nat} {s : Bool} {g : Nat} {p : Int} (h : FloatKind.f32.decode m = .number s g p) : fge .f32 m 0 = (decide (g = 0) || !s) := by
  unfold fge; rw [order_zero h]
  by_cases e : g = 0
  · simp [e]
  · cases s <;> simp [e]
theorem fgt_zero {m : Nat} {s : Bool} {g : Nat} {p : Int} (h : FloatKind.f32.decode m = .number s g p) : fgt .f32 m 0 = (decide (g ≠ 0) && !s) := by
  unfold fgt; rw [order_zero h]
  by_cases e : g = 0
  · simp [e]
  · cases s <;> simp [e]

theorem nearest_word (f : Ieee.Format) (g : Bool) (mag : Nat) (place : Int) : ∃ r, f.nearest g mag place = f.word g r ∧ r ≤ f.infRung := by
  unfold Ieee.Format.nearest
  by_cases h : mag = 0
  · rw [if_pos h]; exact ⟨0, rfl, Nat.zero_le _⟩
  · rw [if_neg h]; exact ⟨_, rfl, Nat.min_le_right _ _⟩
/-- What a number is as a float64: a word with its sign. -/
theorem widen_word {m : Nat} {g : Bool} {mag : Nat} {p : Int} (h : FloatKind.f32.decode m = .number g mag p) : ∃ r, widen m = Ieee.double.word g r ∧ r < 9218868437227405312 := by
  have e1 : Ieee.double.signWeight = 9223372036854775808 := by decide
  have e2 : Ieee.double.infRung = 9218868437227405312 := by decide
  have e3 : Ieee.double.binade = 4503599627370496 := by decide
  obtain ⟨b1, b2, b3⟩ := single_parts m h
  have hfin := widen_fin g mag p b1 b2 b3
  obtain ⟨r, hr, hle⟩ := nearest_word Ieee.double g mag p
  have hd : FloatKind.f64.encode (.number g mag p) = Ieee.double.word g r := hr
  rw [hd] at hfin
  have hlt : r < 9218868437227405312 := by
    rw [e2] at hle
    rcases Nat.lt_or_ge r 9218868437227405312 with h | h
    · exact h
    · exfalso
      have e : r = 9218868437227405312 := by omega
      subst e
      change (Ieee.double.read (Ieee.double.word g 9218868437227405312)).isInfinity = false at hfin
      unfold Ieee.Format.read at hfin
      simp only [word_mod Ieee.double g 9218868437227405312 (by rw [e1]; decide), e2, e3] at hfin
      simp [Ieee.Datum.isInfinity] at hfin
  have hnan : isNanB .f64 (Ieee.double.word g r) = false := by
    show (Ieee.double.read (Ieee.double.word g r)).isNaN = false
    unfold Ieee.Format.read
    simp only [word_mod Ieee.double g r (by rw [e1]; omega), e2]
    split
    · rfl
    · first | rfl | (rw [if_pos hlt]; rfl)
  refine ⟨r, ?_, hlt⟩
  have hw := fconv_widen m
  unfold fconv at hw
  rw [if_neg (by decide), h] at hw
  simp only at hw
  rw [if_neg (by rw [hd, hfin]; decide), hd, canon_not hnan] at hw
  exact (Option.some.inj hw).symm
theorem widen_not_nan {m : Nat} {g : Bool} {mag : Nat} {p : Int} (h : FloatKind.f32.decode m = .number g mag p) : isNanB .f64 (widen m) = false := by
  obtain ⟨r, e, hlt⟩ := widen_word h
  have e1 : Ieee.double.signWeight = 9223372036854775808 := by decide
  have e2 : Ieee.double.infRung = 9218868437227405312 := by decide
  rw [e]
  show (Ieee.double.read (Ieee.double.word g r)).isNaN = false
  unfold Ieee.Format.read
  simp only [word_mod Ieee.double g r (by rw [e1]; omega), e2]
  split
  · rfl
  · first | rfl | (rw [if_pos hlt]; rfl)
theorem widen_sign {m : Nat} {g : Bool} {mag : Nat} {p : Int} (h : FloatKind.f32.decode m = .number g mag p) : decide (IntKind.i64.wrap ((widen m : Nat) : Int) < 0) = g := by
  obtain ⟨r, e, hlt⟩ := widen_word h
  have e1 : Ieee.double.signWeight = 9223372036854775808 := by decide
  rw [e, IntKind.wrap_i64]
  unfold Ieee.Format.word
  rw [e1]
  cases g
  · simp only [Bool.false_eq_true, if_false, decide_eq_false_iff_not]; omega
  · simp only [if_true, decide_eq_true_eq]; omega
end Go.Proofs.YtcgocdcbceeoiaaGreat
