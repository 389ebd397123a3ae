/-
  One variable lent; elements of slices told with what follows.
-/
import Derived.Test.YtcgocdcbceeoiaaGreatA26
namespace Go.Proofs.YtcgocdcbceeoiaaGreat
open Go
theorem renAll_of_free {ρ : Nat → Nat} {l : List D} (h : D.freeAll l = true) : D.renAll ρ l = l := by
  apply List.ext_getElem?
  intro i
  rw [D.renAll_at]
  cases hd : l[i]? with
  | none => rfl
  | some d => simp only [Option.map_some, ren_free ρ d (D.freeAll_at h hd)]
section
variable {P : Program} {o : Oper} {s : St} {K : St → Prop}
theorem H_turn1 {f : FuncId} {xs : Array Operand} {ts : Array TypeId} {B0 B1 : Box} {L' : Loc} {ds : List D} {r : D} (hc : Turns P f [some B0] ds [some B1] r) (id : Nat) (ho : o.op = .call { callee := .value (.func f), args := xs, argTypes := ts })
    (hB : s.loc[id]? = some (some B0)) (h0 : D.freeAll B0.cells = true) (h1 : D.freeAll B1.cells = true) (hds : xs.toList.map s.ev = D.renAll (fun j => [id].getD j 0) ds) (hbel : D.belAll 1 ds = true) (hr : r.free = true) (hd : dstOk o s = true)
    (hL : s.loc.set id (some B1) = L') : HOp P o s L' r := by
  refine H_turn hc [id] ho (by simp) ⟨belAll_of_free 1 _ h0, by rw [renAll_of_free h0]; exact hB, trivial⟩ hds hbel rfl ?_ (bel_of_free 1 r hr) hd ?_ (ren_free _ r hr)
  · simp only [leftOk, Bool.and_true]; exact belAll_of_free 1 _ h1
  · rw [← hL]
    simp only [mergeL, renBox, Option.map_some, renAll_of_free h1]
theorem M_turn1 {f : FuncId} {xs : Array Operand} {ts : Array TypeId} {B0 B1 : Box} {ds : List D} {r : D} (hc : Turns P f [some B0] ds [some B1] r) (id : Nat) (ho : o.op = .call { callee := .value (.func f), args := xs, argTypes := ts })
    (hB : s.loc[id]? = some (some B0)) (h0 : D.freeAll B0.cells = true) (h1 : D.freeAll B1.cells = true) (hds : xs.toList.map s.ev = D.renAll (fun j => [id].getD j 0) ds) (hbel : D.belAll 1 ds = true) (hr : r.free = true) (hd : dstOk o s = true)
    (hK : K ({ s with loc := s.loc.set id (some B1) }.put o.dst r)) : SOp P o K s := by
  refine SOp_turn hc [id] ho (by simp) ⟨belAll_of_free 1 _ h0, by rw [renAll_of_free h0]; exact hB, trivial⟩ hds hbel rfl ?_ (bel_of_free 1 r hr) hd ?_
  · simp only [leftOk, Bool.and_true]; exact belAll_of_free 1 _ h1
  · simp only [mergeL, renBox, Option.map_some, renAll_of_free h1, ren_free _ r hr]
    exact hK
/-- A row that was told by another list as long becomes memory that stays. -/
theorem AW_freeze_l {α : Type} {enc : α → List D} {es : Nat} {c : Code} {Q : Exit → St → Prop} (hf : ∀ x, (enc x).length = es) (t : Tmp) {id : Nat} {xs ys : List α} (ht : s.get t = rowE id es enc ys) (hB : s.loc[id]? = some (boxE es enc xs)) (hl : ys.length = xs.length) (h0 : decide (0 < es) = true) (hfr : D.freeAll (xs.flatMap enc) = true)
    (h : AW P c Q ({ s with loc := s.loc.set id none }.put (some t) (sl es enc xs))) : AW P c Q s :=
  AW_freeze_e hf t (by rw [ht]; simp [rowE, flat_length hf, hl]) hB h0 hfr h
theorem QOp_indexAddr_sj {α : Type} {enc : α → List D} {es : Nat} (hf : ∀ x, (enc x).length = es) {xs : List α} {k : Nat} (hlt : k < xs.length) {t : Nat} {ag : Bool} {x ix : Operand} {kd : IntKind} {i : Int} [ht : TSlc P t es ag] (ho : o.op = .indexAddr t x ix) (hx : s.ev x = .slc es (xs.flatMap enc)) (hi : s.ev ix = .int kd i) (hk : i = (k : Int)) :
    QOp P o s (.sptr (enc xs[k] ++ (xs.drop (k + 1)).flatMap enc)) := by
  rw [← drop_enc hf hlt]
  exact QOp_indexAddr_se hf hlt ho hx hi hk
end
end Go.Proofs.YtcgocdcbceeoiaaGreat
