/-
  nilCheck; whole slices of arrays; floats made wider; arrays told by a function.
-/
import Derived.Test.YtcgocdcbceeoiaaGreatA13
namespace Go.Proofs.YtcgocdcbceeoiaaGreat
open Go

/-- Surely no nil. -/
def D.nn (L : Loc) : D → Bool
  | .sptr _ | .fn _ _ => true
  | .ptr id g _ => curOf L id == some g
  | _ => false

section
variable {P : Program} {o : Oper} {s : St}
theorem QOp_nilCheck {x : Operand} {d : D} (ho : o.op = .nilCheck x) (hx : s.ev x = d) (hn : d.nn s.loc = true) : QOp P o s d :=
  QOp_pure fun E a w h hm => by
    have h1 : Rep E w (a.eval x) d := hx ▸ h x (by simp [ho, Op.operands])
    refine ⟨a.eval x, ?_, h1⟩
    generalize hv : a.eval x = v at h1
    cases h1 with
    | sptr => simp [execOp, ho, hv]
    | fn => simp [execOp, ho, hv]
    | ptr _ id g off k1 k2 k3 =>
      obtain ⟨b, cap, _, rfl⟩ := k3 (by rw [hm.c]; simpa [D.nn] using hn)
      simp [execOp, ho, hv]
    | _ => simp [D.nn] at hn
theorem QOp_slice_pa {t n len : Nat} {ag : Bool} {x : Operand} {id g off : Nat} [ht : TArr P t len n ag] (ho : o.op = .slice t x none none none) (hx : s.ev x = .ptr id g off) (hl : curOf s.loc id = some g) : QOp P o s (.ms id g off n len) :=
  QOp_pure fun E a w h hm => by
    obtain ⟨e, h1, ⟨de, inf, h2, h3, h4, h5, h6⟩⟩ := ht.out
    have h7 : Rep E w (a.eval x) (.ptr id g off) := hx ▸ h x (by simp [ho, Op.operands])
    generalize hv : a.eval x = v at h7
    cases h7 with
    | ptr _ _ _ _ k1 k2 k3 =>
      obtain ⟨b, cap, k4, rfl⟩ := k3 (by rw [hm.c]; exact hl)
      refine ⟨.slice (some ⟨b, off, none⟩) len len, ?_, .ms _ id g _ _ _ k1 k2 fun _ => ⟨b, cap, len, k4, rfl, Nat.le_refl _⟩⟩
      simp [execOp, ho, hv, Instr.sliceAt, Instr.sliceBounds, run_underlying h1, run_sizeOf (P := P) (n := n) ⟨inf, h4, h5⟩, addr_add, Instr.sureAddr]
theorem QOp_slice_sa {t n len : Nat} {ag : Bool} {x : Operand} {cs : List D} [ht : TArr P t len n ag] (ho : o.op = .slice t x none none none) (hx : s.ev x = .sptr cs) (hl : len * n ≤ cs.length) (hm : len ≤ maxLen) : QOp P o s (.slc n (cs.take (len * n))) :=
  QOp_pure fun E a w h _ => by
    obtain ⟨e, h1, ⟨de, inf, h2, h3, h4, h5, h6⟩⟩ := ht.out
    have h7 : Rep E w (a.eval x) (.sptr cs) := hx ▸ h x (by simp [ho, Op.operands])
    generalize hv : a.eval x = v at h7
    cases h7 with
    | sptr b off _ f k4 k5 k6 k7 =>
      have hat : ∀ (i : Nat) d, (cs.take (len * n))[i]? = some d → cs[i]? = some d := fun i d hd => by
        rw [List.getElem?_take] at hd
        split at hd
        · exact hd
        · cases hd
      refine ⟨.slice (some ⟨b, off, none⟩) len len, ?_, .slc _ len len n _ b off f (by rw [List.length_take]; omega) (Nat.le_refl _) hm (fun hne => ⟨rfl, k4 fun e => hne (by rw [e]; simp)⟩) (fun i d hd => k5 i d (hat i d hd)) (fun i d hd => k6 i d (hat i d hd)) ?_⟩
      · simp [execOp, ho, hv, Instr.sliceAt, Instr.sliceBounds, run_underlying h1, run_sizeOf (P := P) (n := n) ⟨inf, h4, h5⟩, addr_add, Instr.sureAddr]
      · rw [D.freeAll_iff]
        intro d hd
        exact (D.freeAll_iff cs).1 k7 d (List.mem_of_mem_take hd)
end

/-! wider floats -/
theorem cut_even_zero (neg : Bool) (n : Nat) : Ieee.Toward.even.cut neg n 0 = n := by
  simp [Ieee.Toward.cut, Nat.mod_one]
theorem read_fin (f : Ieee.Format) (b : Nat) (h : b % f.signWeight < f.infRung) : (f.read b).isInfinity = false := by
  unfold Ieee.Format.read
  simp only
  split
  · rfl
  · first | rfl | (rw [if_pos h]; rfl)
theorem word_mod (f : Ieee.Format) (g : Bool) (r : Nat) (h : r < f.signWeight) : f.word g r % f.signWeight = r := by
  unfold Ieee.Format.word
  split
  · rw [Nat.add_mod_left, Nat.mod_eq_of_lt h]
  · exact Nat.mod_eq_of_lt h
theorem fin_aux (u v : Nat) (h1 : u ≤ 1150 * 4503599627370496) (h2 : v < 2 ^ 53) : u + v < 9218868437227405312 ∧ min (u + v) 9218868437227405312 = u + v := by
  have h : u + v < 9218868437227405312 := by omega
  exact ⟨h, Nat.min_eq_left (Nat.le_of_lt h)⟩
theorem widen_fin (g : Bool) (mag : Nat) (place : Int) (h1 : mag < 2 ^ 24) (h2 : -149 ≤ place) (h3 : place ≤ 105) : (FloatKind.f64.decode (FloatKind.f64.encode (.number g mag place))).isInfinity = false := by
  show (Ieee.double.read (Ieee.double.nearest g mag place)).isInfinity = false
  have e1 : Ieee.double.signWeight = 9223372036854775808 := by decide
  have e2 : Ieee.double.infRung = 9218868437227405312 := by decide
  have e3 : Ieee.double.binade = 4503599627370496 := by decide
  have e4 : Ieee.double.leastPlace = -1074 := by decide
  have e5 : Ieee.double.fractionBits = 52 := rfl
  unfold Ieee.Format.nearest
  by_cases h0 : mag = 0
  · rw [if_pos h0]
    exact read_fin _ _ (by rw [word_mod _ _ _ (by rw [e1]; omega), e2]; omega)
  · rw [if_neg h0]
    simp only [e2, e3, e4, e5]
    have hlog : mag.log2 < 24 := (Nat.log2_lt h0).2 h1
    have hmx : max (place + (mag.log2 : Int) - ((52 : Nat) : Int)) (-1074) = place + (mag.log2 : Int) - 52 := by omega
    rw [hmx]
    have hd : (place + (mag.log2 : Int) - 52 - place).toNat = 0 := by omega
    rw [hd, cut_even_zero]
    have hs : (place - (place + (mag.log2 : Int) - 52)).toNat = 52 - mag.log2 := by omega
    rw [hs, Nat.shiftLeft_eq]
    have hk : mag * 2 ^ (52 - mag.log2) < 2 ^ 53 := by
      have h4 : mag < 2 ^ (mag.log2 + 1) := Nat.lt_log2_self
      calc mag * 2 ^ (52 - mag.log2) < 2 ^ (mag.log2 + 1) * 2 ^ (52 - mag.log2) := Nat.mul_lt_mul_of_pos_right h4 (Nat.pow_pos (by decide))
        _ = 2 ^ 53 := by rw [← Nat.pow_add]; congr 1; omega
    have hr : (place + (mag.log2 : Int) - 52 - -1074).toNat ≤ 1150 := by omega
    have hr2 : (place + (mag.log2 : Int) - 52 - -1074).toNat * 4503599627370496 ≤ 1150 * 4503599627370496 := Nat.mul_le_mul_right _ hr
    obtain ⟨e6, e7⟩ := fin_aux _ _ hr2 hk
    rw [e7]
    exact read_fin _ _ (by rw [word_mod _ _ _ (by rw [e1]; exact Nat.lt_trans e6 (by decide)), e2]; exact e6)
theorem single_parts (b : Nat) {g : Bool} {m : Nat} {e : Int} (h : FloatKind.f32.decode b = .number g m e) : m < 2 ^ 24 ∧ -149 ≤ e ∧ e ≤ 105 := by
  have e1 : Ieee.single.signWeight = 2147483648 := by decide
  have e2 : Ieee.single.infRung = 2139095040 := by decide
  have e3 : Ieee.single.binade = 8388608 := by decide
  have e4 : Ieee.single.leastPlace = -149 := by decide
  change Ieee.single.read b = _ at h
  unfold Ieee.Format.read at h
  simp only [e1, e2, e3, e4] at h
  split at h
  · cases h; omega
  · split at h
    · cases h
      have h9 : b % 2147483648 % 8388608 < 8388608 := Nat.mod_lt _ (by decide)
      refine ⟨by omega, by omega, by omega⟩
    · split at h <;> cases h
def widen (m : Nat) : Nat := (fconv .f32 .f64 m).getD 0
theorem fconv_widen (m : Nat) : fconv .f32 .f64 m = some (widen m) := by
  have : ∃ n, fconv .f32 .f64 m = some n := by
    unfold fconv
    rw [if_neg (by decide)]
    split
    · exact ⟨_, rfl⟩
    · exact ⟨_, rfl⟩
    · rename_i g m' e h
      obtain ⟨h1, h2, h3⟩ := single_parts m h
      rw [if_neg (by rw [widen_fin g m' e h1 h2 h3]; decide)]
      exact ⟨_, rfl⟩
  obtain ⟨n, h⟩ := this
  simp [widen, h]
theorem isNanB_widen (m : Nat) : isNanB .f32 m = true → isNanB .f64 (widen m) = true := by
  intro h
  obtain ⟨g, t, e⟩ := isNanB_nan h
  have h1 := fconv_widen m
  unfold fconv at h1
  rw [if_neg (by decide), e] at h1
  simp only [Option.some.injEq] at h1
  rw [← h1]; exact isNanB_nanB .f64
theorem QOp_widen {P : Program} {o : Oper} {s : St} {src dst : TypeId} {x : Operand} {m : Nat} [ht : TConvF P src dst .f64] (ho : o.op = .convert src dst x) (hx : s.ev x = .flt .f32 m) : QOp P o s (.flt .f64 (widen m)) :=
  QOp_fconv ho hx (fconv_widen m)

/-! floats compared with themselves -/
theorem order_self {d : Ieee.Datum} (h : d.isNaN = false) : d.order d = some .eq := by
  cases d with
  | nan => cases h
  | infinity s => cases s <;> rfl
  | number s m e => simp [Ieee.Datum.order]
theorem feq_self (k : FloatKind) (x : Nat) : feq k x x = !isNanB k x := by
  unfold feq isNanB
  show ((k.decode x).order (k.decode x) == some .eq) = _
  cases h : (k.decode x).isNaN with
  | false => rw [order_self h]; rfl
  | true =>
    cases hd : k.decode x with
    | nan s t => rfl
    | number => rw [hd] at h; cases h
    | infinity => rw [hd] at h; cases h
theorem nan_of_feq {k : FloatKind} {x : Nat} (h : feq k x x = false) : isNanB k x = true := by rw [feq_self] at h; simpa using h
theorem not_nan_of_feq {k : FloatKind} {x : Nat} (h : feq k x x = true) : isNanB k x = false := by rw [feq_self] at h; simpa using h

/-! arrays told by a function -/
def arr (n : Nat) (f : Nat → D) : List D := (List.range n).map f
theorem arr_length (n : Nat) (f : Nat → D) : (arr n f).length = n := by simp [arr]
theorem arr_get {n : Nat} {f : Nat → D} {i : Nat} (h : i < n) : (arr n f)[i]? = some (f i) := by simp [arr, h]
theorem part_arr {n : Nat} {f : Nat → D} {i : Nat} (h : i < n) : partD false 1 ((arr n f).drop i) = some (f i) := by
  simp [partD, arr_get h]
theorem part_arr1 {n : Nat} {f : Nat → D} {i : Nat} (h : i < n) : partD false 1 ((arr n f).drop (i * 1)) = some (f i) := by
  rw [Nat.mul_one]; exact part_arr h
theorem splice_arr {n : Nat} {f : Nat → D} {i : Nat} (h : i < n) (d : D) : splice (arr n f) i [d] = arr n fun j => if j = i then d else f j := by
  apply List.ext_getElem?
  intro j
  unfold splice
  by_cases h1 : j < i
  · rw [List.getElem?_append_left (by simp [arr]; omega), List.getElem?_append_left (by simp [arr]; omega), List.getElem?_take, if_pos h1, arr_get (by omega), arr_get (by omega), if_neg (by omega)]
  · by_cases h2 : j = i
    · subst h2
      rw [List.getElem?_append_left (by simp [arr]; omega), List.getElem?_append_right (by simp [arr]; omega), arr_get (by omega)]
      simp [arr]
      rw [Nat.min_eq_left (by omega)]; simp
    · rw [List.getElem?_append_right (by simp [arr]; omega), List.getElem?_drop]
      simp only [List.length_append, List.length_take, arr_length, List.length_cons, List.length_nil]
      rw [show i + (0 + 1) + (j - (min i n + (0 + 1))) = j by omega]
      by_cases h3 : j < n
      · rw [arr_get h3, arr_get h3, if_neg h2]
      · rw [List.getElem?_eq_none (by simp [arr]; omega), List.getElem?_eq_none (by simp [arr]; omega)]
theorem arr_congr {n : Nat} {f g : Nat → D} (h : ∀ i, i < n → f i = g i) : arr n f = arr n g := by
  unfold arr
  apply List.map_congr_left
  intro i hi
  exact h i (List.mem_range.1 hi)
end Go.Proofs.YtcgocdcbceeoiaaGreat
