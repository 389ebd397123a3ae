/-
  Parts of slices and of strings.
-/
import Derived.Test.YtcgocdcbceeoiaaGreatA17
namespace Go.Proofs.YtcgocdcbceeoiaaGreat
open Go

/-- A bound of a slice expression, known. -/
def bndIs (s : St) (o : Option Operand) (dflt n : Nat) : Prop :=
  match o with
  | none => n = dflt
  | some x => ∃ k, s.ev x = .int k (n : Int)
theorem run_bound {P : Program} {w : World} {k : IntKind} {n y : Nat} {code : BoundsCode} (h : n ≤ y) : (Instr.sliceBound (.int k (n : Int)) y code).run P w = .ok n w := by
  simp [Instr.sliceBound, asIntOf, h]
section
variable {P : Program} {o : Oper} {s : St}
theorem run_bounds {E : Env} {w : World} {a : Act} {sl : Bool} {lo hi : Option Operand} (hr : ∀ x : Operand, lo = some x ∨ hi = some x → Rep E w (a.eval x) (s.ev x)) {len cap l h : Nat} (hl : bndIs s lo 0 l) (hh : bndIs s hi len h) (hlh : l ≤ h) (hc : h ≤ cap) :
    (Instr.sliceBounds sl len cap (lo.map a.eval) (hi.map a.eval) none).run P w = .ok (l, h, cap) w := by
  cases hi with
  | none =>
    simp only [bndIs] at hh
    subst hh
    cases lo with
    | none => simp only [bndIs] at hl; subst hl; simp [Instr.sliceBounds]
    | some x =>
      obtain ⟨k, hx⟩ := hl
      have h1 : a.eval x = .int k l := Rep.int_inv (hx ▸ hr x (.inl rfl))
      simp [Instr.sliceBounds, h1, run_bound (P := P) hlh]
  | some y =>
    obtain ⟨k', hy⟩ := hh
    have h2 : a.eval y = .int k' h := Rep.int_inv (hy ▸ hr y (.inr rfl))
    cases lo with
    | none => simp only [bndIs] at hl; subst hl; simp [Instr.sliceBounds, h2, run_bound (P := P) hc]
    | some x =>
      obtain ⟨k, hx⟩ := hl
      have h1 : a.eval x = .int k l := Rep.int_inv (hx ▸ hr x (.inl rfl))
      simp [Instr.sliceBounds, h1, h2, run_bound (P := P) hlh, run_bound (P := P) hc]
theorem QOp_slice_sl {t es : Nat} {ag : Bool} {x : Operand} {lo hi : Option Operand} {cs : List D} (l h : Nat) [ht : TSlc P t es ag] (ho : o.op = .slice t x lo hi none) (hx : s.ev x = .slc es cs) {len : Nat} (hlen : cs.length = len * es) (hl : bndIs s lo 0 l) (hh : bndIs s hi len h) (hlh : l ≤ h) (hc : h ≤ len) :
    QOp P o s (.slc es ((cs.drop (l * es)).take ((h - l) * es))) :=
  QOp_pure fun E a w hop _ => by
    obtain ⟨e, h1, ⟨de, inf, h2, h3, h4, h5, h6⟩⟩ := ht.out
    have h7 : Rep E w (a.eval x) (.slc es cs) := hx ▸ hop x (by simp [ho, Op.operands])
    have hr : ∀ y : Operand, lo = some y ∨ hi = some y → Rep E w (a.eval y) (s.ev y) := fun y hy => hop y (by rcases hy with rfl | rfl <;> simp [ho, Op.operands])
    generalize hv : a.eval x = v at h7
    cases h7 with
    | slc ad len0 cap _ _ b off f k1 k2 k3 k4 k5 k6 k7 =>
      have e0 : len0 = len := by
        have : len0 * es = len * es := by rw [← k1, hlen]
        exact Nat.eq_of_mul_eq_mul_right h6 this
      subst e0
      have hb := run_bounds (P := P) (sl := true) (len := len0) (cap := cap) hr hl hh hlh (Nat.le_trans hc k2)
      have hat : ∀ (i : Nat) d, ((cs.drop (l * es)).take ((h - l) * es))[i]? = some d → cs[l * es + i]? = some d := fun i d hd => by
        rw [List.getElem?_take] at hd
        split at hd
        · rw [List.getElem?_drop] at hd; exact hd
        · cases hd
      have hlen' : ((cs.drop (l * es)).take ((h - l) * es)).length = (h - l) * es := by
        rw [List.length_take, List.length_drop, hlen, ← Nat.sub_mul]
        exact Nat.min_eq_left (Nat.mul_le_mul_right _ (by omega))
      refine ⟨.slice (if cap = l then ad else ad.map (·.add (l * es))) (h - l) (cap - l), ?_, .slc _ _ _ es _ b (off + l * es) (fun i => f (l * es + i)) hlen' (by omega) (by omega) (fun hne => ?_) (fun i d hd => ?_) (fun i d hd => k6 _ d (hat i d hd)) ?_⟩
      · simp [execOp, ho, hv, Instr.sliceAt, Instr.slice, run_underlying h1, run_sizeOf (P := P) (n := es) ⟨inf, h4, h5⟩, hb]
      · have hpos : 0 < (h - l) * es := by rw [← hlen']; exact List.length_pos_iff.2 hne
        have hlt : l < h := by
          rcases Nat.lt_or_ge l h with h8 | h8
          · exact h8
          · rw [Nat.sub_eq_zero_of_le h8, Nat.zero_mul] at hpos; omega
        have hcs : cs ≠ [] := by intro e; subst e; simp at hne
        obtain ⟨q1, q2⟩ := k4 hcs
        rw [if_neg (by omega), q1]
        exact ⟨by simp [Addr.add_lit], q2⟩
      · have := k5 _ d (hat i d hd)
        rw [Nat.add_assoc]; exact this
      · rw [D.freeAll_iff]
        intro d hd
        exact (D.freeAll_iff cs).1 k7 d (List.mem_of_mem_drop (List.mem_of_mem_take hd))
theorem QOp_slice_str {t : Nat} {x : Operand} {lo hi : Option Operand} {b : ByteArray} (l h : Nat) [ht : TString P t] (ho : o.op = .slice t x lo hi none) (hx : s.ev x = .str b) (hl : bndIs s lo 0 l) (hh : bndIs s hi b.size h) (hlh : l ≤ h) (hc : h ≤ b.size) : QOp P o s (.str (b.extract l h)) :=
  QOp_pure fun E a w hop _ => by
    have h7 : Rep E w (a.eval x) (.str b) := hx ▸ hop x (by simp [ho, Op.operands])
    have hr : ∀ y : Operand, lo = some y ∨ hi = some y → Rep E w (a.eval y) (s.ev y) := fun y hy => hop y (by rcases hy with rfl | rfl <;> simp [ho, Op.operands])
    generalize hv : a.eval x = v at h7
    cases h7 with
    | str =>
      have hb := run_bounds (P := P) (sl := false) (len := b.size) (cap := b.size) hr hl hh hlh hc
      refine ⟨.string (b.extract l h), ?_, .str _⟩
      simp [execOp, ho, hv, Instr.sliceAt, Instr.slice, run_underlying ht.out, hb]
theorem flat_take {α : Type} {f : α → List D} {es : Nat} (hf : ∀ x, (f x).length = es) : ∀ (xs : List α) (n : Nat), (xs.flatMap f).take (n * es) = (xs.take n).flatMap f
  | [], n => by simp
  | x :: xs, 0 => by simp
  | x :: xs, n + 1 => by
    rw [List.flatMap_cons, List.take_succ_cons, List.flatMap_cons, ← flat_take hf xs n, Nat.succ_mul, Nat.add_comm, ← hf x, List.take_length_add_append]
theorem QOp_slice_enc {α : Type} {enc : α → List D} {es : Nat} (hf : ∀ x, (enc x).length = es) {xs ys : List α} {t : Nat} {ag : Bool} {x : Operand} {lo hi : Option Operand} (l h : Nat) (he : (xs.drop l).take (h - l) = ys) [ht : TSlc P t es ag] (ho : o.op = .slice t x lo hi none) (hx : s.ev x = .slc es (xs.flatMap enc))
    (hl : bndIs s lo 0 l) (hh : bndIs s hi xs.length h) (hlh : l ≤ h) (hc : h ≤ xs.length) : QOp P o s (.slc es (ys.flatMap enc)) := by
  have := QOp_slice_sl (P := P) l h ho hx (flat_length hf xs) hl hh hlh hc
  rwa [flat_drop hf, flat_take hf, he] at this
end
end Go.Proofs.YtcgocdcbceeoiaaGreat
