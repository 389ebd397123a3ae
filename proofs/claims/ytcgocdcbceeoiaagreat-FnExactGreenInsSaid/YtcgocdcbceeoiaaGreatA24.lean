/-
  Rows of the walk's own that hold values with some cells each.
-/
import Derived.Test.YtcgocdcbceeoiaaGreatA16
import Derived.Test.YtcgocdcbceeoiaaGreatA23
namespace Go.Proofs.YtcgocdcbceeoiaaGreat
open Go

/-- A row of the walk's own that holds values. -/
abbrev rowE {α : Type} (id es : Nat) (enc : α → List D) (xs : List α) : D := .row id (xs.flatMap enc).length es xs.length
abbrev boxE {α : Type} (es : Nat) (enc : α → List D) (xs : List α) : Option Box := some ⟨es, xs.flatMap enc⟩
/-- Values whose cells may be written and copied as they are. -/
def OneE {α : Type} (enc : α → List D) : Prop := ∀ L x, (enc x).all (D.one L) = true
theorem one_all {α : Type} {enc : α → List D} (h : OneE enc) (L : Loc) (xs : List α) : (xs.flatMap enc).all (D.one L) = true := by
  rw [List.all_eq_true]
  intro d hd
  obtain ⟨x, _, hx⟩ := List.mem_flatMap.1 hd
  exact List.all_eq_true.1 (h L x) d hx
section
variable {α : Type} {enc : α → List D} {es : Nat}
theorem slCells_enc (hf : ∀ x, (enc x).length = es) {L : Loc} {id : Nat} {xs : List α} (h : L[id]? = some (boxE es enc xs)) : slCells L (rowE id es enc xs) = some (es, xs.length, xs.flatMap enc) := by
  simp [slCells, h, flat_length hf]
theorem slCells_slc (hf : ∀ x, (enc x).length = es) (h0 : 0 < es) {L : Loc} {xs : List α} : slCells L (sl es enc xs) = some (es, xs.length, xs.flatMap enc) := by
  simp [slCells, h0, flat_length hf, Nat.mul_div_cancel _ h0]
theorem src_slc (hf : ∀ x, (enc x).length = es) (h0 : decide (0 < es) = true) (h1 : OneE enc) {L : Loc} {xs : List α} : srcD L es (sl es enc xs) = some (xs.length, xs.flatMap enc) := by
  simp only [srcD, slCells_slc hf (of_decide_eq_true h0)]
  simp only [true_and, if_pos (one_all h1 L xs)]
theorem src_row (hf : ∀ x, (enc x).length = es) (h1 : OneE enc) {L : Loc} {id : Nat} {xs : List α} (h : L[id]? = some (boxE es enc xs)) : srcD L es (rowE id es enc xs) = some (xs.length, xs.flatMap enc) := by
  simp only [srcD, slCells_enc hf h]
  simp only [true_and, if_pos (one_all h1 L xs)]
theorem curOf_enc {L : Loc} {id : Nat} {xs : List α} (h : L[id]? = some (boxE es enc xs)) : curOf L id = some (xs.flatMap enc).length := curOf_some h
/-- A row lent for reading. -/
theorem conv_row (hf : ∀ x, (enc x).length = es) {L : Loc} {id : Nat} {xs : List α} (h : L[id]? = some (boxE es enc xs)) (hl : xs.length ≤ maxLen) (hfr : D.freeAll (xs.flatMap enc) = true) : Conv L (rowE id es enc xs) (sl es enc xs) :=
  conv_sl (slCells_enc hf h) hl hfr rfl
end

theorem rowE_app {α : Type} {enc : α → List D} {es : Nat} (hf : ∀ x, (enc x).length = es) (id : Nat) (xs ys : List α) : rowE id es enc (xs ++ ys) = .row id ((xs.flatMap enc).length + ys.length * es) es (xs.length + ys.length) := by
  simp [flat_length hf, Nat.add_mul]
theorem boxE_app {α : Type} (enc : α → List D) (es : Nat) (xs ys : List α) : boxE es enc (xs ++ ys) = some ⟨es, xs.flatMap enc ++ ys.flatMap enc⟩ := by
  simp
section
variable {P : Program} {o : Oper} {s : St} {K : St → Prop} {α : Type} {enc : α → List D} {es : Nat}
theorem QOp_len_row (hf : ∀ x, (enc x).length = es) {xs : List α} {id : Nat} {t : Nat} {x : Operand} {n : Nat} {ag : Bool} [ht : TSlc P t n ag] (ho : o.op = .call { callee := .builtin .len, args := #[x], argTypes := #[t] }) (hx : s.ev x = rowE id es enc xs) (h : s.loc[id]? = some (boxE es enc xs)) : QOp P o s (.int .i64 xs.length) :=
  QOp_len_sl (es := es) (len := xs.length) (cs := xs.flatMap enc) ho (by rw [hx]; exact slCells_enc hf h)
/-- An append of values. -/
theorem M_append (hf : ∀ x, (enc x).length = es) {t tx bytes : Nat} {zs : List D} {x y : Operand} {id : Nat} {xs ys xys : List α} (he : xs ++ ys = xys) [ht : TRow P t es bytes zs] [TSrc P tx]
    (ho : o.op = .call { callee := .builtin .append, args := #[x, y], argTypes := #[t, tx] }) (hx : s.ev x = rowE id es enc xs) (hB : s.loc[id]? = some (boxE es enc xs)) (hy : srcD s.loc es (s.ev y) = some (ys.length, ys.flatMap enc))
    (hfit : (xs.length + ys.length) * bytes ≤ 140737488355328) (hmax : xs.length + ys.length ≤ maxLen) (hd : dstOk o s = true)
    (hK : K ({ s with loc := s.loc.set id (boxE es enc xys) }.put o.dst (rowE id es enc xys))) : SOp P o K s := by
  refine SOp_append ho hx hB rfl (by rw [flat_length hf]) rfl hy hfit hmax hd ?_
  subst he
  rw [boxE_app, rowE_app hf] at hK
  exact hK
theorem H_append_e (hf : ∀ x, (enc x).length = es) {t tx bytes : Nat} {zs : List D} {x y : Operand} {id : Nat} {xs ys xys : List α} {L' : Loc} (he : xs ++ ys = xys) [ht : TRow P t es bytes zs] [TSrc P tx]
    (ho : o.op = .call { callee := .builtin .append, args := #[x, y], argTypes := #[t, tx] }) (hx : s.ev x = rowE id es enc xs) (hB : s.loc[id]? = some (boxE es enc xs)) (hy : srcD s.loc es (s.ev y) = some (ys.length, ys.flatMap enc))
    (hfit : (xs.length + ys.length) * bytes ≤ 140737488355328) (hmax : xs.length + ys.length ≤ maxLen) (hd : dstOk o s = true) (hL : s.loc.set id (boxE es enc xys) = L') : HOp P o s L' (rowE id es enc xys) := by
  have := H_append (P := P) ho hx hB rfl (by rw [flat_length hf]) rfl hy hfit hmax hd rfl
  subst he
  subst hL
  rw [boxE_app, rowE_app hf]
  exact this
/-- An empty slice becomes a row. -/
theorem AW_adopt_e {c : Code} {Q : Exit → St → Prop} (t : Tmp) (es : Nat) (enc : α → List D) (hes : decide (0 < es) = true) (ht : s.get t = .emp) (h : AW P c Q ((s.push ⟨es, ([] : List α).flatMap enc⟩).put (some t) (rowE s.loc.length es enc []))) : AW P c Q s :=
  AW_adopt t es (of_decide_eq_true hes) ht h
/-- A row becomes memory that stays. -/
theorem AW_freeze_e {c : Code} {Q : Exit → St → Prop} (hf : ∀ x, (enc x).length = es) (t : Tmp) {id : Nat} {xs : List α} (ht : s.get t = rowE id es enc xs) (hB : s.loc[id]? = some (boxE es enc xs)) (h0 : decide (0 < es) = true) (hfr : D.freeAll (xs.flatMap enc) = true)
    (h : AW P c Q ({ s with loc := s.loc.set id none }.put (some t) (sl es enc xs))) : AW P c Q s :=
  AW_freeze t ht hB rfl (by rw [flat_length hf]) rfl h0 hfr h
end
end Go.Proofs.YtcgocdcbceeoiaaGreat
