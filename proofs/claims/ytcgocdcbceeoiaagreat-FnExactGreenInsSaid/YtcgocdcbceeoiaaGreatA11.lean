/-
  Floats: all NaN alike; and the functions without a body.
-/
import Derived.Test.YtcgocdcbceeoiaaGreatA10
import Derived.Laws.FloatArith
import Derived.Laws.StandIn
namespace Go.Proofs.YtcgocdcbceeoiaaGreat
open Go

theorem decode_nanB (k : FloatKind) : ∃ s t, k.decode (nanB k) = .nan s t := by
  cases k
  · exact ⟨false, 4194304, by decide⟩
  · exact ⟨false, 2251799813685248, by decide⟩
theorem isNanB_nan {k : FloatKind} {x : Nat} (h : isNanB k x = true) : ∃ s t, k.decode x = .nan s t := by
  unfold isNanB at h
  cases hd : k.decode x with
  | nan s t => exact ⟨s, t, rfl⟩
  | number => rw [hd] at h; cases h
  | infinity => rw [hd] at h; cases h
theorem isNanB_nanB (k : FloatKind) : isNanB k (nanB k) = true := by
  obtain ⟨s, t, h⟩ := decode_nanB k
  simp [isNanB, h, Ieee.Datum.isNaN]
theorem canon_not {k : FloatKind} {x : Nat} (h : isNanB k x = false) : canon k x = x := by simp [canon, h]
theorem canon_nan {k : FloatKind} {x : Nat} (h : isNanB k x = true) : canon k x = nanB k := by simp [canon, h]
theorem isNanB_canon (k : FloatKind) (x : Nat) : isNanB k (canon k x) = isNanB k x := by
  cases h : isNanB k x with
  | true => rw [canon_nan h]; exact isNanB_nanB k
  | false => rw [canon_not h]; exact h
theorem canon_canon (k : FloatKind) (x : Nat) : canon k (canon k x) = canon k x := by
  cases h : isNanB k x with
  | true => rw [canon_nan h]; exact canon_nan (isNanB_nanB k)
  | false => rw [canon_not h]; exact canon_not h

theorem un_canon {α : Type} (F : Ieee.Datum → Option α) (h1 : ∀ s t, F (.nan s t) = none) (k : FloatKind) (x : Nat) : F (k.decode (canon k x)) = F (k.decode x) := by
  cases h : isNanB k x with
  | false => rw [canon_not h]
  | true =>
    obtain ⟨s, t, e⟩ := isNanB_nan h
    obtain ⟨s', t', e'⟩ := decode_nanB k
    rw [canon_nan h, e, e', h1, h1]
theorem op_canon {α : Type} (F : Ieee.Datum → Ieee.Datum → Option α) (h1 : ∀ s t d, F (.nan s t) d = none) (h2 : ∀ s t d, F d (.nan s t) = none) (k : FloatKind) (x y : Nat) :
    F (k.decode (canon k x)) (k.decode (canon k y)) = F (k.decode x) (k.decode y) := by
  rw [un_canon (fun d => F d _) (fun s t => h1 s t _) k x, un_canon (fun d => F _ d) (fun s t => h2 s t _) k y]

def fres (k : FloatKind) : Option Nat → Nat
  | some r => canon k r
  | none => nanB k
def rawOp (op : BinOp) (k : FloatKind) (x y : Nat) : Option Nat :=
  match op with
  | .add => k.format.add x y
  | .sub => k.format.sub x y
  | .mul => k.format.mul x y
  | .quo => k.format.div x y
  | _ => none
def fop (op : BinOp) (k : FloatKind) (x y : Nat) : Nat := fres k (rawOp op k x y)
def isFArith : BinOp → Bool
  | .add | .sub | .mul | .quo => true
  | _ => false
theorem sum_nan_l (s : Bool) (t : Nat) (d : Ieee.Datum) : (Ieee.Datum.nan s t).sum d = none := by cases d <;> rfl
theorem sum_nan_r (s : Bool) (t : Nat) (d : Ieee.Datum) : d.sum (Ieee.Datum.nan s t) = none := by cases d <;> rfl
theorem product_nan_l (s : Bool) (t : Nat) (d : Ieee.Datum) : (Ieee.Datum.nan s t).product d = none := by cases d <;> rfl
theorem product_nan_r (s : Bool) (t : Nat) (d : Ieee.Datum) : d.product (Ieee.Datum.nan s t) = none := by cases d <;> rfl
theorem quotient_nan_l (n : Nat) (s : Bool) (t : Nat) (d : Ieee.Datum) : (Ieee.Datum.nan s t).quotient n d = none := by cases d <;> rfl
theorem quotient_nan_r (n : Nat) (s : Bool) (t : Nat) (d : Ieee.Datum) : d.quotient n (Ieee.Datum.nan s t) = none := by cases d <;> rfl
theorem order_nan_l (s : Bool) (t : Nat) (d : Ieee.Datum) : (Ieee.Datum.nan s t).order d = none := by cases d <;> rfl
theorem order_nan_r (s : Bool) (t : Nat) (d : Ieee.Datum) : d.order (Ieee.Datum.nan s t) = none := by cases d <;> rfl
theorem rawOp_canon (op : BinOp) (k : FloatKind) (x y : Nat) : rawOp op k (canon k x) (canon k y) = rawOp op k x y := by
  cases op <;> simp only [rawOp]
  · exact op_canon (fun a b => (a.sum b).map k.format.write) (fun s t d => by simp only [sum_nan_l]; rfl) (fun s t d => by simp only [sum_nan_r]; rfl) k x y
  · exact op_canon (fun a b => (a.sum b.opposite).map k.format.write) (fun s t d => by simp only [sum_nan_l]; rfl) (fun s t d => by simp only [Ieee.Datum.opposite, sum_nan_r]; rfl) k x y
  · exact op_canon (fun a b => (a.product b).map k.format.write) (fun s t d => by simp only [product_nan_l]; rfl) (fun s t d => by simp only [product_nan_r]; rfl) k x y
  · exact op_canon (fun a b => (a.quotient (k.format.fractionBits + 2) b).map k.format.write) (fun s t d => by simp only [quotient_nan_l]; rfl) (fun s t d => by simp only [quotient_nan_r]; rfl) k x y
theorem order_canon (k : FloatKind) (x y : Nat) : k.format.order (canon k x) (canon k y) = k.format.order x y :=
  op_canon (fun a b => a.order b) (fun s t d => order_nan_l s t d) (fun s t d => order_nan_r s t d) k x y

theorem read_nan (f : Ieee.Format) (b : Nat) (h1 : f.binade ≤ f.infRung) (h : f.infRung < b % f.signWeight) : (f.read b).isNaN = true := by
  unfold Ieee.Format.read
  simp only
  rw [if_neg (by omega), if_neg (by omega), if_neg (by omega)]
  rfl
/-- Whatever NaN is chosen, it is one. -/
theorem nan_cut (k : FloatKind) (x y t : Nat) : isNanB k (Question.cut (.nanBits k x y) t) = true := by
  cases k
  · refine read_nan Ieee.single _ (by decide) ?_
    have e1 : Ieee.single.infRung = 2139095040 := by decide
    have e2 : Ieee.single.signWeight = 2147483648 := by decide
    have h1 : (t / 2) % 8388607 < 8388607 := Nat.mod_lt _ (by decide)
    have h2 : t % 2 < 2 := Nat.mod_lt _ (by decide)
    rw [e1, e2]
    show 2139095040 < (t % 2 * 2147483648 + 2139095040 + 1 + t / 2 % 8388607) % 2147483648
    generalize t / 2 % 8388607 = u at *
    generalize t % 2 = v at *
    omega
  · refine read_nan Ieee.double _ (by decide) ?_
    have e1 : Ieee.double.infRung = 9218868437227405312 := by decide
    have e2 : Ieee.double.signWeight = 9223372036854775808 := by decide
    have h1 : (t / 2) % 4503599627370495 < 4503599627370495 := Nat.mod_lt _ (by decide)
    have h2 : t % 2 < 2 := Nat.mod_lt _ (by decide)
    rw [e1, e2]
    show 9218868437227405312 < (t % 2 * 9223372036854775808 + 9218868437227405312 + 1 + t / 2 % 4503599627370495) % 9223372036854775808
    generalize t / 2 % 4503599627370495 = u at *
    generalize t % 2 = v at *
    omega

theorem Rep.flt_inv {E : Env} {w : World} {v : Value} {k : FloatKind} {x : Nat} (h : Rep E w v (.flt k x)) : ∃ b, v = .float k b ∧ canon k b = x := by
  cases h with
  | flt _ b _ e => exact ⟨b, rfl, e⟩

section
variable {P : Program} {o : Oper} {s : St}

theorem QOp_farith {op : BinOp} {t yt : TypeId} {x y : Operand} {k : FloatKind} {m n : Nat} (ho : o.op = .binOp op t x y yt) (hop : isFArith op = true) (hx : s.ev x = .flt k m) (hy : s.ev y = .flt k n) :
    QOp P o s (.flt k (fop op k m n)) :=
  QOp_drawn fun E a w h _ => by
    obtain ⟨b, h1, e1⟩ := Rep.flt_inv (hx ▸ h x (by simp [ho, Op.operands]))
    obtain ⟨c, h2, e2⟩ := Rep.flt_inv (hy ▸ h y (by simp [ho, Op.operands]))
    subst e1; subst e2
    unfold fop
    rw [rawOp_canon]
    cases hr : rawOp op k b c with
    | some r =>
      refine ⟨.float k r, w, ?_, rfl, rfl, rfl, rfl, .flt _ _ _ rfl⟩
      cases op <;> simp only [isFArith, Bool.false_eq_true] at hop <;> simp only [rawOp] at hr <;> simp [execOp, ho, h1, h2, eqGuard, binOp, Op.floatArith, hr]
    | none =>
      refine ⟨.float k (Question.cut (.nanBits k b c) (w.tape w.drawn (.nanBits k b c))), w.drew, ?_, rfl, rfl, rfl, rfl, .flt _ _ _ (canon_nan (nan_cut k b c _))⟩
      cases op <;> simp only [isFArith, Bool.false_eq_true] at hop <;> simp only [rawOp] at hr <;> simp [execOp, ho, h1, h2, eqGuard, binOp, Op.floatArith, hr, Question.forced]

def feq (k : FloatKind) (x y : Nat) : Bool := k.format.order x y == some .eq
def flt' (k : FloatKind) (x y : Nat) : Bool := k.format.order x y == some .lt
def fle (k : FloatKind) (x y : Nat) : Bool := k.format.order x y == some .lt || k.format.order x y == some .eq
def fgt (k : FloatKind) (x y : Nat) : Bool := k.format.order x y == some .gt
def fge (k : FloatKind) (x y : Nat) : Bool := k.format.order x y == some .gt || k.format.order x y == some .eq
def fcmpD (op : BinOp) (k : FloatKind) (x y : Nat) : Option Bool :=
  match op with
  | .eql => some (feq k x y)
  | .neq => some (!feq k x y)
  | .lss => some (flt' k x y)
  | .leq => some (fle k x y)
  | .gtr => some (fgt k x y)
  | .geq => some (fge k x y)
  | _ => none
theorem QOp_fcmp {op : BinOp} {t yt : TypeId} {x y : Operand} {k : FloatKind} {m n : Nat} {b : Bool} (ho : o.op = .binOp op t x y yt) (_hop : isCmp op = true) (hx : s.ev x = .flt k m) (hy : s.ev y = .flt k n) (hb : fcmpD op k m n = some b) :
    QOp P o s (.bool b) :=
  QOp_pure fun E a w h _ => by
    obtain ⟨c, h1, e1⟩ := Rep.flt_inv (hx ▸ h x (by simp [ho, Op.operands]))
    obtain ⟨d, h2, e2⟩ := Rep.flt_inv (hy ▸ h y (by simp [ho, Op.operands]))
    subst e1; subst e2
    refine ⟨.bool b, ?_, .bool _⟩
    cases op <;> simp only [fcmpD, Option.some.injEq, reduceCtorEq] at hb <;> subst hb <;>
      simp [execOp, ho, h1, h2, eqGuard, binOp, Op.floatCmp, feq, flt', fle, fgt, fge, order_canon] <;> rfl

/-! conversions -/
/-- A float of another size; none: too great for it. -/
def fconv (s k : FloatKind) (x : Nat) : Option Nat :=
  if s = k then some x else
  match s.decode x with
  | .nan _ _ => some (nanB k)
  | .infinity g => some (canon k (k.encode (.infinity g)))
  | .number g m e => if (k.decode (k.encode (.number g m e))).isInfinity then none else some (canon k (k.encode (.number g m e)))
theorem nan_cutConv (k : FloatKind) (y t : Nat) : isNanB k (Question.cut (.nanConv k y) t) = true := by
  have := nan_cut k 0 0 t
  cases k <;> exact this
/-- The types of a conversion. -/
class TConvF (P : Program) (src dst : TypeId) (k : outParam FloatKind) : Prop where
  src : (P.underlying src).isSome = true
  dst : P.underlying dst = some (.float k)
class TConvI (P : Program) (src dst : TypeId) (k : outParam IntKind) : Prop where
  src : (P.underlying src).isSome = true
  dst : P.underlying dst = some (.int k)
instance {P : Program} {src dst : TypeId} {k k' : FloatKind} [h1 : TFloatK P src k'] [h2 : TFloatK P dst k] : TConvF P src dst k := ⟨by rw [h1.out]; rfl, h2.out⟩
instance {P : Program} {src dst : TypeId} {k : FloatKind} {k' : IntKind} [h1 : TIntK P src k'] [h2 : TFloatK P dst k] : TConvF P src dst k := ⟨by rw [h1.out]; rfl, h2.out⟩
instance {P : Program} {src dst : TypeId} {k : IntKind} {k' : FloatKind} [h1 : TFloatK P src k'] [h2 : TIntK P dst k] : TConvI P src dst k := ⟨by rw [h1.out]; rfl, h2.out⟩
instance {P : Program} {src dst : TypeId} {k k' : IntKind} [h1 : TIntK P src k'] [h2 : TIntK P dst k] : TConvI P src dst k := ⟨by rw [h1.out]; rfl, h2.out⟩

theorem QOp_fconv {src dst : TypeId} {x : Operand} {s0 k : FloatKind} {m n : Nat} [ht : TConvF P src dst k] (ho : o.op = .convert src dst x) (hx : s.ev x = .flt s0 m) (hn : fconv s0 k m = some n) : QOp P o s (.flt k n) :=
  QOp_drawn fun E a w h _ => by
    obtain ⟨b, h1, e1⟩ := Rep.flt_inv (hx ▸ h x (by simp [ho, Op.operands]))
    subst e1
    have hex : ∀ v w', (convert src dst (.float s0 b)).run P w = .ok v w' → (execOp a.eval o).run P w = .ok (.value v) w' := fun v w' hr => by simp [execOp, ho, h1, hr]
    unfold fconv at hn
    by_cases hk : s0 = k
    · subst hk
      rw [if_pos rfl] at hn
      cases hn
      exact ⟨.float s0 b, w, hex _ _ (run_convert_float_float w src dst s0 s0 b b ht.src ht.dst (by simp [floatToFloatBits])), rfl, rfl, rfl, rfl, .flt _ _ _ rfl⟩
    · rw [if_neg hk] at hn
      cases hnan : isNanB s0 b with
      | true =>
        obtain ⟨g, t, hd⟩ := isNanB_nan hnan
        obtain ⟨g', t', hd'⟩ := decode_nanB s0
        rw [canon_nan hnan, hd'] at hn
        cases hn
        refine ⟨.float k (Question.cut (.nanConv k b) (w.tape w.drawn (.nanConv k b))), w.drew, hex _ _ ?_, rfl, rfl, rfl, rfl, .flt _ _ _ (canon_nan (nan_cutConv k b _))⟩
        obtain ⟨u, hs'⟩ := Option.isSome_iff_exists.1 ht.src
        cases u <;> simp [convert, run_underlying hs', run_underlying ht.dst, Conv.floatToFloat, hk, hd, Question.forced]
      | false =>
        rw [canon_not hnan] at hn
        have : ∃ r, floatToFloatBits s0 b k = some r ∧ canon k r = n := by
          unfold floatToFloatBits
          rw [if_neg hk]
          cases hd : s0.decode b with
          | nan g t => simp [isNanB, hd, Ieee.Datum.isNaN] at hnan
          | infinity g => rw [hd] at hn; cases hn; exact ⟨_, rfl, rfl⟩
          | number g m e =>
            rw [hd] at hn
            simp only at hn ⊢
            split at hn
            · cases hn
            · rename_i hi
              cases hn
              rw [if_neg hi]
              exact ⟨_, rfl, rfl⟩
        obtain ⟨r, hr, hrn⟩ := this
        exact ⟨.float k r, w, hex _ _ (run_convert_float_float w src dst s0 k b r ht.src ht.dst hr), rfl, rfl, rfl, rfl, .flt _ _ _ hrn⟩

def ofInt (k : FloatKind) (n : Int) : Nat := canon k (k.nearest n)
theorem QOp_itof {src dst : TypeId} {x : Operand} {k0 : IntKind} {k : FloatKind} {n : Int} [ht : TConvF P src dst k] (ho : o.op = .convert src dst x) (hx : s.ev x = .int k0 n) : QOp P o s (.flt k (ofInt k n)) :=
  QOp_pure fun E a w h _ => by
    have h1 : a.eval x = .int k0 n := Rep.int_inv (hx ▸ h x (by simp [ho, Op.operands]))
    refine ⟨.float k (k.nearest n), ?_, .flt _ _ _ rfl⟩
    obtain ⟨u, hs'⟩ := Option.isSome_iff_exists.1 ht.src
    cases u <;> simp [execOp, ho, h1, convert, run_underlying hs', run_underlying ht.dst, Conv.intToFloat]
theorem QOp_itoi {src dst : TypeId} {x : Operand} {k0 k : IntKind} {n : Int} [ht : TConvI P src dst k] (ho : o.op = .convert src dst x) (hx : s.ev x = .int k0 n) : QOp P o s (.int k (k.wrap n)) :=
  QOp_pure fun E a w h _ => by
    have h1 : a.eval x = .int k0 n := Rep.int_inv (hx ▸ h x (by simp [ho, Op.operands]))
    refine ⟨.int k (k.wrap n), ?_, .int _ _⟩
    obtain ⟨u, hs'⟩ := Option.isSome_iff_exists.1 ht.src
    cases u <;> simp [execOp, ho, h1, convert, run_underlying hs', run_underlying ht.dst, Conv.intToInt]
theorem QOp_ftoi {src dst : TypeId} {x : Operand} {s0 : FloatKind} {k : IntKind} {m : Nat} {n : Int} [ht : TConvI P src dst k] (ho : o.op = .convert src dst x) (hx : s.ev x = .flt s0 m) (hn : floatToIntVal s0 m k = some n) : QOp P o s (.int k n) :=
  QOp_pure fun E a w h _ => by
    obtain ⟨b, h1, e1⟩ := Rep.flt_inv (hx ▸ h x (by simp [ho, Op.operands]))
    subst e1
    have hr : floatToIntVal s0 b k = some n := by
      rw [← hn]
      unfold floatToIntVal
      rw [un_canon (fun d => d.toInt .zero) (fun s t => rfl) s0 b]
    exact ⟨.int k n, by simp [execOp, ho, h1, run_convert_float_int w src dst s0 k b n ht.src ht.dst hr], .int _ _⟩

/-! functions without a body -/
structure Ext (P : Program) (f : FuncId) (e : Array Value → Sem Value) : Prop where
  out : ∃ fn, P.funcs[f]? = some fn ∧ (fn.name == "runtime.NumGoroutine") = false ∧ fn.body.isNone = true ∧ Extern.findNext fn = none ∧ Extern.find fn = some e
class XBits32 (P : Program) (f : FuncId) : Prop where
  out : Ext P f Extern.MathFloatBits.float32bits
class XBits64 (P : Program) (f : FuncId) : Prop where
  out : Ext P f Extern.MathFloatBits.float64bits
class XFrom32 (P : Program) (f : FuncId) : Prop where
  out : Ext P f Extern.MathFloatBits.float32frombits
theorem run_ext {f : FuncId} {e : Array Value → Sem Value} (h : Ext P f e) {args : Array Value} {w w' : World} {v : Value} (hr : (e args).run P w = .ok v w') : (callFunc f args).run P w = .ok (.value v) w' := by
  obtain ⟨fn, h1, h2, h3, h4, h5⟩ := h.out
  rw [run_callFunc_standIn h1 h2 h3 h4 h5, hr]; rfl

theorem QOp_bits32 {f : FuncId} {x : Operand} {ts : Array TypeId} {m : Nat} [hf : XBits32 P f] (ho : o.op = .call { callee := .value (.func f), args := #[x], argTypes := ts }) (hx : s.ev x = .flt .f32 m) (hn : isNanB .f32 m = false) : QOp P o s (.int .u32 m) :=
  QOp_pure fun E a w h _ => by
    obtain ⟨b, h1, e1⟩ := Rep.flt_inv (hx ▸ h x (by simp [ho, Op.operands, Call.operands]))
    have e2 : b = m := by rw [← e1, canon_not]; rw [← e1, isNanB_canon] at hn; exact hn
    subst e2
    refine ⟨.int .u32 b, ?_, .int _ _⟩
    have : (Extern.MathFloatBits.float32bits #[.float .f32 b]).run P w = .ok (.int .u32 b) w := rfl
    have he : a.eval (.func f) = .func (.func f) #[] #[] := rfl
    simp [execOp, ho, resolve, he, Deferred.ofValue, invoke, h1, run_ext hf.out this]
theorem QOp_bits64 {f : FuncId} {x : Operand} {ts : Array TypeId} {m : Nat} [hf : XBits64 P f] (ho : o.op = .call { callee := .value (.func f), args := #[x], argTypes := ts }) (hx : s.ev x = .flt .f64 m) (hn : isNanB .f64 m = false) : QOp P o s (.int .u64 m) :=
  QOp_pure fun E a w h _ => by
    obtain ⟨b, h1, e1⟩ := Rep.flt_inv (hx ▸ h x (by simp [ho, Op.operands, Call.operands]))
    have e2 : b = m := by rw [← e1, canon_not]; rw [← e1, isNanB_canon] at hn; exact hn
    subst e2
    refine ⟨.int .u64 b, ?_, .int _ _⟩
    have : (Extern.MathFloatBits.float64bits #[.float .f64 b]).run P w = .ok (.int .u64 b) w := rfl
    have he : a.eval (.func f) = .func (.func f) #[] #[] := rfl
    simp [execOp, ho, resolve, he, Deferred.ofValue, invoke, h1, run_ext hf.out this]
end
end Go.Proofs.YtcgocdcbceeoiaaGreat
