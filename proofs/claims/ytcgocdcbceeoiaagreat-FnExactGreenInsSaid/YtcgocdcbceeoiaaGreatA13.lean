/-
  Equality of structs and arrays of plain cells.
-/
import Derived.Test.YtcgocdcbceeoiaaGreatA12
import Derived.Laws.StructEq
import Derived.ChangeKeysEq
namespace Go.Proofs.YtcgocdcbceeoiaaGreat
open Go

inductive LK where
  | b | i | s | f
  deriving DecidableEq
def okLeaf : LK → D → D → Bool
  | .i, .int k _, .int k' _ => decide (k = k')
  | .b, .bool _, .bool _ => true
  | .s, .str _, .str _ => true
  | .f, .flt k _, .flt k' _ => decide (k = k')
  | _, _, _ => false
def eqLeaf : D → D → Bool
  | .int _ a, .int _ b => a == b
  | .bool a, .bool b => a == b
  | .str a, .str b => a == b
  | .flt k a, .flt _ b => feq k a b
  | _, _ => false
def okCells : List LK → List D → List D → Bool
  | [], [], [] => true
  | k :: ks, c :: cs, d :: ds => okLeaf k c d && okCells ks cs ds
  | _, _, _ => false
def eqCells : List D → List D → Bool
  | c :: cs, d :: ds => eqLeaf c d && eqCells cs ds
  | _, _ => true

theorem okCells_length : ∀ {ks : List LK} {cs ds : List D}, okCells ks cs ds = true → cs.length = ks.length ∧ ds.length = ks.length
  | [], [], [], _ => ⟨rfl, rfl⟩
  | k :: ks, c :: cs, d :: ds, h => by
    simp only [okCells, Bool.and_eq_true] at h
    have := okCells_length h.2
    simp [this.1, this.2]
  | [], _ :: _, _, h => by cases h
  | [], [], _ :: _, h => by cases h
  | _ :: _, [], _, h => by cases h
  | _ :: _, _ :: _, [], h => by cases h
theorem okCells_append : ∀ {k1 k2 : List LK} {cs ds : List D}, okCells (k1 ++ k2) cs ds = true → okCells k1 (cs.take k1.length) (ds.take k1.length) = true ∧ okCells k2 (cs.drop k1.length) (ds.drop k1.length) = true
  | [], k2, cs, ds, h => ⟨rfl, h⟩
  | k :: k1, k2, c :: cs, d :: ds, h => by
    simp only [List.cons_append, okCells, Bool.and_eq_true] at h
    have := okCells_append h.2
    exact ⟨by simp [okCells, h.1, this.1], by simpa using this.2⟩
  | _ :: _, _, [], _, h => by cases h
  | _ :: _, _, _ :: _, [], h => by cases h
theorem eqCells_split : ∀ (n : Nat) {cs ds : List D}, cs.length = ds.length → eqCells cs ds = (eqCells (cs.take n) (ds.take n) && eqCells (cs.drop n) (ds.drop n))
  | 0, cs, ds, _ => by simp [eqCells]
  | n + 1, [], [], _ => by simp [eqCells]
  | n + 1, c :: cs, d :: ds, h => by
    simp only [List.length_cons, Nat.add_right_cancel_iff] at h
    simp only [eqCells, List.take_succ_cons, List.drop_succ_cons, Bool.and_assoc]
    rw [eqCells_split n h]
  | n + 1, [], _ :: _, h => by simp at h
  | n + 1, _ :: _, [], h => by simp at h

def aggT (P : Program) (t : TypeId) : Bool := match P.underlying t with
  | some d => isAggD d
  | none => false
def fldKs (P : Program) (r : TypeId → Option (List LK)) : List Field → Nat → Option (List LK)
  | [], _ => some []
  | f :: fs, off => match r f.type with
    | some ks => if f.name ≠ "_" ∧ f.offset = off ∧ tElmB P f.type ks.length (aggT P f.type) = true then (fldKs P r fs (off + ks.length)).map (ks ++ ·) else none
    | none => none
def leafKs (P : Program) : Nat → TypeId → Option (List LK)
  | 0, _ => none
  | m + 1, t => match P.underlying t with
    | some .bool => some [.b]
    | some (.int _) => some [.i]
    | some .string => some [.s]
    | some (.float _) => some [.f]
    | some (.array n e) => match leafKs P m e with
      | some ks => if tElmB P e ks.length (aggT P e) = true then some (List.replicate n ks).flatten else none
      | none => none
    | some (.struct fs) => if P.stoodInHeld t = false then fldKs P (leafKs P m) fs.toList 0 else none
    | _ => none

/-- The comparison at a type, where it is of plain cells. -/
def EqT (P : Program) (dd : Nat) (t : TypeId) (ks : List LK) : Prop :=
  ∀ (E : Env) (w : World) (v u : Value) (cs ds : List D) (d e : D), okCells ks cs ds = true → partD (aggT P t) ks.length cs = some d → partD (aggT P t) ks.length ds = some e → Rep E w v d → Rep E w u e →
    (Op.equalIn dd t v u).run P w = .ok (eqCells cs ds) w

theorem partD_some {ag : Bool} {n : Nat} {cs : List D} (h : n ≤ cs.length) (h0 : 0 < n) : ∃ d, partD ag n cs = some d := by
  cases ag with
  | true => exact ⟨_, by simp [partD, h]; rfl⟩
  | false => exact ⟨cs[0]'(by omega), by simp [partD]⟩
theorem partD_take {ag : Bool} {n : Nat} {cs : List D} (h0 : 0 < n) : partD ag n (cs.take n) = partD ag n cs := by
  cases ag with
  | true =>
    simp only [partD, List.length_take, List.take_take, Nat.min_self]
    by_cases h : n ≤ cs.length
    · rw [if_pos (by omega), if_pos h]
    · rw [if_neg (by omega), if_neg h]
  | false => simp only [partD]; rw [List.getElem?_take, if_pos h0]

/-- One part. -/
theorem eq_part {P : Program} {dd : Nat} {e : TypeId} {ks : List LK} (IH : EqT P dd e ks) (ht : tElmB P e ks.length (aggT P e) = true) {E : Env} {w : World} {xs ys : Array Value} {cs ds : List D} (hx : xs.size = cs.length) (hy : ys.size = ds.length)
    (hrx : ∀ (i : Nat) v d, xs[i]? = some v → cs[i]? = some d → Rep E w v d) (hry : ∀ (i : Nat) v d, ys[i]? = some v → ds[i]? = some d → Rep E w v d) {off : Nat} (hok : okCells ks ((cs.drop off).take ks.length) ((ds.drop off).take ks.length) = true) :
    ∃ a b, (part e xs off).run P w = .ok a w ∧ (part e ys off).run P w = .ok b w ∧ (Op.equalIn dd e a b).run P w = .ok (eqCells ((cs.drop off).take ks.length) ((ds.drop off).take ks.length)) w := by
  have htE := tElm_of ht
  have h0 : 0 < ks.length := by obtain ⟨_, _, _, _, _, _, h⟩ := htE.out; exact h
  obtain ⟨l1, l2⟩ := okCells_length hok
  simp only [List.length_take, List.length_drop] at l1 l2
  obtain ⟨d, hd⟩ := partD_some (ag := aggT P e) (n := ks.length) (cs := cs.drop off) (by simp; omega) h0
  obtain ⟨f, hf⟩ := partD_some (ag := aggT P e) (n := ks.length) (cs := ds.drop off) (by simp; omega) h0
  obtain ⟨a, h1, h2⟩ := run_part htE hx hrx hd
  obtain ⟨b, h3, h4⟩ := run_part htE hy hry hf
  exact ⟨a, b, h1, h3, IH E w a b _ _ d f hok (by rw [partD_take h0]; exact hd) (by rw [partD_take h0]; exact hf) h2 h4⟩

theorem eq_items {P : Program} {dd : Nat} {e : TypeId} {ks : List LK} (IH : EqT P dd e ks) (ht : tElmB P e ks.length (aggT P e) = true) {E : Env} {w : World} {xs ys : Array Value} {cs ds : List D} (hx : xs.size = cs.length) (hy : ys.size = ds.length)
    (hrx : ∀ (i : Nat) v d, xs[i]? = some v → cs[i]? = some d → Rep E w v d) (hry : ∀ (i : Nat) v d, ys[i]? = some v → ds[i]? = some d → Rep E w v d) : ∀ (n i : Nat), okCells (List.replicate n ks).flatten (cs.drop (i * ks.length)) (ds.drop (i * ks.length)) = true →
      (Op.eqItems dd e ks.length xs ys (List.range' i n)).run P w = .ok (eqCells (cs.drop (i * ks.length)) (ds.drop (i * ks.length))) w
  | 0, i, h => by
    have := okCells_length h
    simp only [List.replicate_zero, List.flatten_nil, List.length_nil] at this
    rw [List.eq_nil_of_length_eq_zero this.1]
    simp [Op.eqItems, eqCells]
  | n + 1, i, h => by
    rw [List.replicate_succ, List.flatten_cons] at h
    obtain ⟨h1, h2⟩ := okCells_append h
    obtain ⟨a, b, p1, p2, p3⟩ := eq_part IH ht hx hy hrx hry h1
    rw [List.drop_drop, List.drop_drop, ← Nat.succ_mul] at h2
    have ih := eq_items IH ht hx hy hrx hry n (i + 1) h2
    have hl := okCells_length h
    rw [eqCells_split ks.length (hl.1.trans hl.2.symm), List.drop_drop, List.drop_drop, ← Nat.succ_mul]
    rw [List.range'_succ]
    simp only [Op.eqItems, Sem.run_bind, p1, p2, p3, Result.andThen_ok]
    cases eqCells ((cs.drop (i * ks.length)).take ks.length) ((ds.drop (i * ks.length)).take ks.length) with
    | false => simp
    | true => simpa using ih

theorem eq_fields {P : Program} {dd : Nat} {r : TypeId → Option (List LK)} (IH : ∀ t ks, r t = some ks → EqT P dd t ks) {E : Env} {w : World} {xs ys : Array Value} {cs ds : List D} (hx : xs.size = cs.length) (hy : ys.size = ds.length)
    (hrx : ∀ (i : Nat) v d, xs[i]? = some v → cs[i]? = some d → Rep E w v d) (hry : ∀ (i : Nat) v d, ys[i]? = some v → ds[i]? = some d → Rep E w v d) : ∀ (fs : List Field) (off : Nat) (ks : List LK), fldKs P r fs off = some ks → okCells ks (cs.drop off) (ds.drop off) = true →
      (Op.eqFields dd xs ys fs).run P w = .ok (eqCells (cs.drop off) (ds.drop off)) w
  | [], off, ks, hk, h => by
    simp only [fldKs, Option.some.injEq] at hk
    subst hk
    have := okCells_length h
    rw [List.eq_nil_of_length_eq_zero this.1]
    simp [Op.eqFields, eqCells]
  | f :: fs, off, ks, hk, h => by
    simp only [fldKs] at hk
    split at hk
    · rename_i k1 hr
      split at hk
      · rename_i hc
        obtain ⟨hn, rfl, ht⟩ := hc
        obtain ⟨k2, hk2, rfl⟩ := Option.map_eq_some_iff.1 hk
        obtain ⟨h1, h2⟩ := okCells_append h
        obtain ⟨a, b, p1, p2, p3⟩ := eq_part (IH _ _ hr) ht hx hy hrx hry h1
        rw [List.drop_drop, List.drop_drop] at h2
        have ih := eq_fields IH hx hy hrx hry fs (f.offset + k1.length) k2 hk2 h2
        have hl := okCells_length h
        rw [eqCells_split k1.length (hl.1.trans hl.2.symm), List.drop_drop, List.drop_drop]
        simp only [Op.eqFields, hn, ne_eq, not_false_eq_true, if_true, Sem.run_bind, p1, p2, p3, Result.andThen_ok]
        cases eqCells ((cs.drop f.offset).take k1.length) ((ds.drop f.offset).take k1.length) with
        | false => simp
        | true => simpa using ih
      · cases hk
    · cases hk

theorem eq_leaf {P : Program} {dd : Nat} {t : TypeId} {k : LK} {desc : TypeDesc} (_hu : P.underlying t = some desc) (hag : aggT P t = false)
    (hrun : ∀ (E : Env) (w : World) (v u : Value) (d e : D), okLeaf k d e = true → Rep E w v d → Rep E w u e → (Op.equalIn (dd + 1) t v u).run P w = .ok (eqLeaf d e) w) : EqT P (dd + 1) t [k] := by
  intro E w v u cs ds d e hok hd he hv hu
  rw [hag] at hd he
  obtain ⟨l1, l2⟩ := okCells_length hok
  match cs, ds, l1, l2 with
  | [c], [c'], _, _ =>
    simp only [partD, List.getElem?_cons_zero, Option.some.injEq] at hd he
    subst hd; subst he
    simp only [okCells, Bool.and_true] at hok
    rw [hrun E w v u _ _ hok hv hu]
    simp [eqCells]

theorem eqT_of {P : Program} (dd : Nat) : ∀ (m : Nat) (t : TypeId) (ks : List LK), leafKs P m t = some ks → EqT P (dd + m) t ks
  | 0, t, ks, h => by cases h
  | m + 1, t, ks, h => by
    unfold leafKs at h
    split at h
    · rename_i hu; cases h
      refine eq_leaf (dd := dd + m) hu (by simp [aggT, hu, isAggD]) fun E w v u d e hok hv hw => ?_
      cases hv <;> cases hw <;> simp only [okLeaf, Bool.false_eq_true] at hok
      exact _root_.Go.run_equalIn_bool w (dd + m) t _ _ hu
    · rename_i q hu; cases h
      refine eq_leaf (dd := dd + m) hu (by simp [aggT, hu, isAggD]) fun E w v u d e hok hv hw => ?_
      cases hv <;> cases hw <;> simp only [okLeaf, Bool.false_eq_true, decide_eq_true_eq] at hok
      subst hok
      exact run_equalIn_int w (dd + m) t _ _ _ _ hu
    · rename_i hu; cases h
      refine eq_leaf (dd := dd + m) hu (by simp [aggT, hu, isAggD]) fun E w v u d e hok hv hw => ?_
      cases hv <;> cases hw <;> simp only [okLeaf, Bool.false_eq_true] at hok
      simp [Op.equalIn, run_underlying hu, eqLeaf]
    · rename_i q hu; cases h
      refine eq_leaf (dd := dd + m) hu (by simp [aggT, hu, isAggD]) fun E w v u d e hok hv hw => ?_
      cases hv <;> cases hw <;> simp only [okLeaf, Bool.false_eq_true, decide_eq_true_eq] at hok
      rename_i e1 _ _ _ e2
      subst hok; subst e1; subst e2
      simp [Op.equalIn, run_underlying hu, eqLeaf, Op.floatEq, feq, order_canon]
    · rename_i n e hu
      split at h
      · rename_i k1 hk
        split at h
        · rename_i ht
          cases h
          intro E w v u cs ds d e' hok hd he hv hw
          have hag : aggT P t = true := by simp [aggT, hu, isAggD]
          obtain ⟨l1, l2⟩ := okCells_length hok
          rw [hag] at hd he
          simp only [partD] at hd he
          rw [if_pos (by omega)] at hd he
          cases hd; cases he
          rw [← l1, List.take_length] at hv
          rw [← l2, List.take_length] at hw
          cases hv with
          | agg xs _ hx hrx =>
            cases hw with
            | agg ys _ hy hry =>
              obtain ⟨de, inf, _, _, hi, hs, _⟩ := (tElm_of ht).out
              have := eq_items (eqT_of dd m e k1 hk) ht hx hy hrx hry n 0 (by simpa using hok)
              rw [show dd + (m + 1) = (dd + m) + 1 from rfl, run_equalIn_array w (dd + m) xs ys hu hi, List.range_eq_range']
              have hc : P.cellsOf e = k1.length := by rw [← hs]; simp [Program.cellsOf, hi]
              rw [hc]
              simpa using this
        · cases h
      · cases h
    · rename_i fs hu
      split at h
      · rename_i hst
        have hfs : P.fieldsOf t = fs := by simp [Program.fieldsOf, hu]
        intro E w v u cs ds d e' hok hd he hv hw
        have hag : aggT P t = true := by simp [aggT, hu, isAggD]
        obtain ⟨l1, l2⟩ := okCells_length hok
        rw [hag] at hd he
        simp only [partD] at hd he
        rw [if_pos (by omega)] at hd he
        cases hd; cases he
        rw [← l1, List.take_length] at hv
        rw [← l2, List.take_length] at hw
        cases hv with
        | agg xs _ hx hrx =>
          cases hw with
          | agg ys _ hy hry =>
            have := eq_fields (eqT_of dd m) hx hy hrx hry fs.toList 0 ks h (by simpa using hok)
            rw [show dd + (m + 1) = (dd + m) + 1 from rfl, run_equalIn_struct w (dd + m) t xs ys (by rw [hfs]; exact hu) hst, hfs]
            simpa using this
      · cases h
    · cases h

/-- A type of plain cells. -/
class TLeaf (P : Program) (t : TypeId) (ks : outParam (List LK)) : Prop where
  out : leafKs P 20 t = some ks ∧ P.eqGuardType P.depth t = false ∧ aggT P t = true

section
variable {P : Program} {o : Oper} {s : St}
theorem run_aeq {t : TypeId} {ks : List LK} [ht : TLeaf P t ks] {E : Env} {w : World} {v u : Value} {cs ds : List D} (hok : okCells ks cs ds = true) (hv : Rep E w v (.agg cs)) (hu : Rep E w u (.agg ds)) : (Op.equal t v u).run P w = .ok (eqCells cs ds) w := by
  obtain ⟨l1, l2⟩ := okCells_length hok
  exact eqT_of 9980 20 t ks ht.out.1 E w v u cs ds _ _ hok (by rw [ht.out.2.2]; simp only [partD]; rw [if_pos (by omega), ← l1, List.take_length]) (by rw [ht.out.2.2]; simp only [partD]; rw [if_pos (by omega), ← l2, List.take_length]) hv hu
theorem QOp_aeq {t yt : TypeId} {x y : Operand} {ks : List LK} {cs ds : List D} [ht : TLeaf P t ks] (ho : o.op = .binOp .eql t x y yt) (hx : s.ev x = .agg cs) (hy : s.ev y = .agg ds) (hok : okCells ks cs ds = true) : QOp P o s (.bool (eqCells cs ds)) :=
  QOp_pure fun E a w h _ => by
    have h1 := hx ▸ h x (by simp [ho, Op.operands])
    have h2 := hy ▸ h y (by simp [ho, Op.operands])
    have hr := run_aeq (P := P) (t := t) hok h1 h2
    generalize hv0 : a.eval x = v at h1 hr
    generalize hu : a.eval y = u at h2 hr
    cases h1 with
    | agg xs _ _ _ =>
      cases h2 with
      | agg ys _ _ _ =>
        refine ⟨.bool (eqCells cs ds), ?_, .bool _⟩
        simp [execOp, ho, hu, hv0, run_eqGuard_agg (P := P) w .eql t x y xs ys ht.out.2.1, binOp, hr]
theorem QOp_ane {t yt : TypeId} {x y : Operand} {ks : List LK} {cs ds : List D} [ht : TLeaf P t ks] (ho : o.op = .binOp .neq t x y yt) (hx : s.ev x = .agg cs) (hy : s.ev y = .agg ds) (hok : okCells ks cs ds = true) : QOp P o s (.bool (!eqCells cs ds)) :=
  QOp_pure fun E a w h _ => by
    have h1 := hx ▸ h x (by simp [ho, Op.operands])
    have h2 := hy ▸ h y (by simp [ho, Op.operands])
    have hr := run_aeq (P := P) (t := t) hok h1 h2
    generalize hv0 : a.eval x = v at h1 hr
    generalize hu : a.eval y = u at h2 hr
    cases h1 with
    | agg xs _ _ _ =>
      cases h2 with
      | agg ys _ _ _ =>
        refine ⟨.bool (!eqCells cs ds), ?_, .bool _⟩
        simp [execOp, ho, hu, hv0, run_eqGuard_agg (P := P) w .neq t x y xs ys ht.out.2.1, binOp, hr]
end
end Go.Proofs.YtcgocdcbceeoiaaGreat
