/-
  Rows of values: elements read and written; calls that change variables in regions that draw their order.
-/
import Derived.Test.YtcgocdcbceeoiaaGreatA25
import Derived.Test.YtcgocdcbceeoiaaGreatA21
namespace Go.Proofs.YtcgocdcbceeoiaaGreat
open Go

section
variable {α : Type} {enc : α → List D} {es : Nat}
theorem rd_rowE {L : Loc} {id off : Nat} {xs : List α} (h : L[id]? = some (boxE es enc xs)) : rdCells L (.ptr id (xs.flatMap enc).length off) = some ((xs.flatMap enc).drop off) := by
  simp [rdCells, h]
end
section
variable {P : Program} {o : Oper} {s : St} {K : St → Prop} {α : Type} {enc : α → List D} {es : Nat}
theorem QOp_index_row (hf : ∀ x, (enc x).length = es) {xs : List α} {id k : Nat} (hlt : k < xs.length) {t : Nat} {ag : Bool} {x ix : Operand} {kd : IntKind} {i : Int} [ht : TSlc P t es ag] (ho : o.op = .indexAddr t x ix) (hx : s.ev x = rowE id es enc xs) (hi : s.ev ix = .int kd i) (h : s.loc[id]? = some (boxE es enc xs)) (hk : i = (k : Int)) :
    QOp P o s (.ptr id (xs.flatMap enc).length (k * es)) := QOp_indexAddr_re hlt ho hx hi (curOf_enc h) hk
theorem QOp_load_r1 {g : α → D} {xs : List α} {t id k j : Nat} {x : Operand} [ht : TElm P t 1 false] (ho : o.op = .load t x) (hx : s.ev x = .ptr id (xs.flatMap (one1 g)).length j) (h : s.loc[id]? = some (boxE 1 (one1 g) xs)) (hj : j = k * 1) (hi : k < xs.length) : QOp P o s (g xs[k]) :=
  QOp_load_s1 ho (by rw [hx]; exact rd_rowE h) hj hi
theorem QOp_load_ra (hf : ∀ x, (enc x).length = es) {xs : List α} {t id k j : Nat} {x : Operand} [ht : TElm P t es true] (ho : o.op = .load t x) (hx : s.ev x = .ptr id (xs.flatMap enc).length j) (h : s.loc[id]? = some (boxE es enc xs)) (hj : j = k * es) (hi : k < xs.length) : QOp P o s (.agg (enc xs[k])) :=
  QOp_load_sa hf ho (by rw [hx]; exact rd_rowE h) hj hi
theorem M_store_r1 {g : α → D} {xs : List α} {t id k j : Nat} {x y : Operand} {v : α} [ht : TElm P t 1 false] (ho : o.op = .store t x y) (hx : s.ev x = .ptr id (xs.flatMap (one1 g)).length j) (h : s.loc[id]? = some (boxE 1 (one1 g) xs)) (hj : j = k * 1) (hi : k < xs.length)
    (hy : s.ev y = g v) (hds : (g v).one s.loc = true) (hdst : o.dst = none) (hK : K { s with loc := s.loc.set id (boxE 1 (one1 g) (xs.set k v)) }) : SOp P o K s := by
  have hl : (xs.flatMap (one1 g)).length = xs.length := one_len xs
  refine M_store_e1 (B := ⟨1, xs.flatMap (one1 g)⟩) ho hx h rfl hy hds (by rw [hl, hj]; omega) hdst (splice_flat (enc := one1 g) (es := 1) (fun _ => rfl) (k := k) hi hj v) hK
theorem M_store_ra (hf : ∀ x, (enc x).length = es) {xs : List α} {t id k j : Nat} {x y : Operand} {v : α} [ht : TElm P t es true] (ho : o.op = .store t x y) (hx : s.ev x = .ptr id (xs.flatMap enc).length j) (h : s.loc[id]? = some (boxE es enc xs)) (hj : j = k * es) (hi : k < xs.length)
    (hy : s.ev y = .agg (enc v)) (hds : (enc v).all (D.one s.loc) = true) (hdst : o.dst = none) (hK : K { s with loc := s.loc.set id (boxE es enc (xs.set k v)) }) : SOp P o K s := by
  have hl : (xs.flatMap enc).length = xs.length * es := flat_length hf xs
  have hfit : k * es + es ≤ xs.length * es := by
    have : (k + 1) * es ≤ xs.length * es := Nat.mul_le_mul_right es hi
    rw [Nat.add_mul] at this; omega
  refine M_store_ea (B := ⟨es, xs.flatMap enc⟩) ho hx h rfl hy hds (hf v) (by rw [hl, hj]; omega) hdst (splice_flat hf (k := k) hi hj v) hK
/-- A slice that is made: zeros. -/
theorem M_make_1 {g : α → D} {z : α} {t bytes : Nat} {x y : Operand} {k1 k2 : IntKind} {n1 n2 : Int} (n : Nat) [ht : TRow P t 1 bytes [g z]] (ho : o.op = .makeSlice t x y) (hx : s.ev x = .int k1 n1) (hy : s.ev y = .int k2 n2) (hn1 : n1 = (n : Int)) (hn2 : n2 = (n : Int))
    (hb : bytes * n ≤ 281474976710656) (hmax : n ≤ maxLen) (hd : dstOk o s = true) (hK : K ((s.push ⟨1, (List.replicate n z).flatMap (one1 g)⟩).put o.dst (rowE s.loc.length 1 (one1 g) (List.replicate n z)))) : SOp P o K s := by
  refine SOp_make (l := n) (c := n) ho hx hy hn1 hn2 (Nat.le_refl _) hb hmax hd ?_
  have e1 : (List.replicate n [g z]).flatten = (List.replicate n z).flatMap (one1 g) := by
    rw [List.flatMap, List.map_replicate]
  have e2 : n * 1 = ((List.replicate n z).flatMap (one1 g)).length := by rw [one_len]; simp
  rw [e1, e2]
  have e3 : (List.replicate n z).length = n := by simp
  rw [rowE, e3] at hK
  exact hK
end
section
variable {P : Program} {o : Oper} {s : St}
theorem H_turn {f : FuncId} {xs : Array Operand} {ts : Array TypeId} {L0 L1 L' : Loc} {ds : List D} {r r' : D} (hc : Turns P f L0 ds L1 r) (ids : List Nat) (ho : o.op = .call { callee := .value (.func f), args := xs, argTypes := ts })
    (hn : decide ids.Nodup = true) (hlent : LentP s.loc L0.length (fun j => ids.getD j 0) ids L0) (hds : xs.toList.map s.ev = D.renAll (fun j => ids.getD j 0) ds) (hbel : D.belAll L0.length ds = true) (hlen : L1.length = L0.length) (hok : leftOk L0.length L1 = true) (hrb : r.bel L0.length = true) (hd : dstOk o s = true)
    (hL : mergeL (fun j => ids.getD j 0) s.loc ids L1 = L') (hr : (r.ren fun j => ids.getD j 0) = r') : HOp P o s L' r' := by
  intro s1 e1 e2 e3
  refine SOp_turn hc ids ho hn (by rw [e2]; exact hlent) ?_ hbel hlen hok hrb (dstOk_of e1 hd) ?_
  · rw [← hds]
    refine List.map_congr_left fun x hx => e3 x ?_
    simp only [ho, Op.operands, Call.operands]
    exact Array.mem_append.2 (.inr (by simpa using hx))
  · rw [e2, hL, hr]
end
section
variable {P : Program} {ops : Array Oper} {l : List Oper} {K : St → Prop} {s : St} {dst : Option Tmp} {op : Op} {ty : TypeId} {pos : String} {after : Array Edge} {guard : Option (Nat × Bool)} {Ls : Nat → Loc} {hp : List Nat} {h n : Nat}
theorem H0_q {d : D} (g : Guard ops s ⟨dst, op, ty, pos, after, guard⟩ true) (h0 : QOp P ⟨dst, op, ty, pos, after, guard⟩ { s with loc := Ls 0 } d)
    (hd : dOk dst s = true) (e : HOps P ops Ls [] h (n + 1) l K (s.put dst d)) : HOps P ops Ls [] h n (⟨dst, op, ty, pos, after, guard⟩ :: l) K s :=
  HOps_q g rfl (fun k hk => by
    match k, hk with
    | 0, _ => exact .inr h0
    | k + 1, hk => exact absurd hk (by simp)) hd e
theorem HOps_known {t : Tmp} {b c : Bool} (ht : s.get t = .bool b) (hb : b = c) (e : HOps P ops Ls hp h n l K (s.put (some t) (.bool c))) : HOps P ops Ls hp h n l K s := by
  subst hb
  have : s.put (some t) (.bool b) = s := by
    cases s
    simp only [St.put, upd_self _ _ ht]
  rwa [this] at e
theorem HK_t {j : Nat} {gb : Bool} {t : Tmp} {b : Bool} (_hj : gslot ops j = some t) (ht : s.get t = .bool b) (hb : b = true)
    (e : HOps P ops Ls hp h n (⟨dst, op, ty, pos, after, some (j, gb)⟩ :: l) K (s.put (some t) (.bool true))) : HOps P ops Ls hp h n (⟨dst, op, ty, pos, after, some (j, gb)⟩ :: l) K s := HOps_known ht hb e
theorem HK_f {j : Nat} {gb : Bool} {t : Tmp} {b : Bool} (_hj : gslot ops j = some t) (ht : s.get t = .bool b) (hb : b = false)
    (e : HOps P ops Ls hp h n (⟨dst, op, ty, pos, after, some (j, gb)⟩ :: l) K (s.put (some t) (.bool false))) : HOps P ops Ls hp h n (⟨dst, op, ty, pos, after, some (j, gb)⟩ :: l) K s := HOps_known ht hb e
theorem HK_split {j : Nat} {gb : Bool} {t : Tmp} {b : Bool} (_hj : gslot ops j = some t) (ht : s.get t = .bool b)
    (e1 : b = true → HOps P ops Ls hp h n (⟨dst, op, ty, pos, after, some (j, gb)⟩ :: l) K (s.put (some t) (.bool true)))
    (e0 : b = false → HOps P ops Ls hp h n (⟨dst, op, ty, pos, after, some (j, gb)⟩ :: l) K (s.put (some t) (.bool false))) : HOps P ops Ls hp h n (⟨dst, op, ty, pos, after, some (j, gb)⟩ :: l) K s := by
  cases b
  · exact HOps_known ht rfl (e0 rfl)
  · exact HOps_known ht rfl (e1 rfl)
end
end Go.Proofs.YtcgocdcbceeoiaaGreat
