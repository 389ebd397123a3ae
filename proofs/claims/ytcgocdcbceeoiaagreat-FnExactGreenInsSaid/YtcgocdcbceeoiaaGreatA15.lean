/-
  Slices of values told by their cells: reading, filling, comparing; sizes.
-/
import Derived.Test.YtcgocdcbceeoiaaGreatA14
namespace Go.Proofs.YtcgocdcbceeoiaaGreat
open Go

/-- A float32. -/
abbrev F (m : Nat) : D := .flt .f32 m
abbrev I (n : Int) : D := .int .i64 n
/-- A slice of values with these cells each. -/
abbrev sl {α : Type} (es : Nat) (enc : α → List D) (xs : List α) : D := .slc es (xs.flatMap enc)
abbrev one1 {α : Type} (g : α → D) : α → List D := fun x => [g x]

section
variable {α : Type} {enc : α → List D} {es : Nat}
theorem drop_enc (hf : ∀ x, (enc x).length = es) {xs : List α} {i : Nat} (h : i < xs.length) : (xs.flatMap enc).drop (i * es) = enc xs[i] ++ (xs.drop (i + 1)).flatMap enc := by
  rw [flat_drop hf, List.drop_eq_getElem_cons h, List.flatMap_cons]
theorem part_one {g : α → D} {xs : List α} {i : Nat} (h : i < xs.length) : partD false 1 ((xs.flatMap (one1 g)).drop (i * 1)) = some (g xs[i]) := by
  rw [drop_enc (es := 1) (fun _ => rfl) h]; rfl
theorem one_len {g : α → D} (xs : List α) : (xs.flatMap (one1 g)).length = xs.length := by
  rw [flat_length (es := 1) (fun _ => rfl), Nat.mul_one]

/-- A slice that is filled up to k. -/
def fillD (enc : α → List D) (zs : List D) (xs : List α) (k : Nat) : List D := (xs.take k).flatMap enc ++ (List.replicate (xs.length - k) zs).flatten
theorem fillD_zero (zs : List D) (xs : List α) : fillD enc zs xs 0 = (List.replicate xs.length zs).flatten := by simp [fillD]
theorem fillD_all (zs : List D) (xs : List α) : fillD enc zs xs xs.length = xs.flatMap enc := by simp [fillD]
theorem fillD_free (h : ∀ x, D.freeAll (enc x) = true) {zs : List D} (hz : D.freeAll zs = true) (xs : List α) (k : Nat) : D.freeAll (fillD enc zs xs k) = true := by
  rw [D.freeAll_iff]
  intro d hd
  rcases List.mem_append.1 hd with hd | hd
  · obtain ⟨x, _, hx⟩ := List.mem_flatMap.1 hd
    exact (D.freeAll_iff _).1 (h x) d hx
  · obtain ⟨l, hl, hx⟩ := List.mem_flatten.1 hd
    rw [(List.mem_replicate.1 hl).2] at hx
    exact (D.freeAll_iff _).1 hz d hx
theorem fillD_length (hf : ∀ x, (enc x).length = es) {zs : List D} (hz : zs.length = es) (xs : List α) {k : Nat} (h : k ≤ xs.length) : (fillD enc zs xs k).length = xs.length * es := by
  unfold fillD
  rw [List.length_append, flat_length hf, length_rep_flat hz, List.length_take, Nat.min_eq_left h, ← Nat.add_mul]
  congr 1; omega
theorem splice_fill (hf : ∀ x, (enc x).length = es) {zs : List D} (hz : zs.length = es) {xs : List α} {k : Nat} (h : k < xs.length) : splice (fillD enc zs xs k) (k * es) (enc xs[k]) = fillD enc zs xs (k + 1) := by
  have h1 : ((xs.take k).flatMap enc).length = k * es := by rw [flat_length hf, List.length_take, Nat.min_eq_left (by omega)]
  have h2 : xs.length - k = (xs.length - (k + 1)) + 1 := by omega
  unfold splice fillD
  rw [List.take_left' h1, hf, List.take_succ_eq_append_getElem h, List.flatMap_append, h2, List.replicate_succ, List.flatten_cons]
  rw [← List.append_assoc ((xs.take k).flatMap enc) zs]
  rw [List.drop_left' (by rw [List.length_append, h1, hz])]
  simp
theorem curOf_fill (hf : ∀ x, (enc x).length = es) {zs : List D} (hz : zs.length = es) (xs : List α) {k : Nat} (h : k ≤ xs.length) : curOf [some ⟨es, fillD enc zs xs k⟩] 0 = some (xs.length * es) := by
  rw [curOf_some (B := ⟨es, fillD enc zs xs k⟩) rfl]; simp only; rw [fillD_length hf hz xs h]
end

theorem locBel_nil (k : Nat) : locBel k [] = true := rfl
theorem locBel_cons {k : Nat} {B : Box} {L : Loc} (h : D.freeAll B.cells = true) (hL : locBel k L = true) : locBel k (some B :: L) = true := by
  simp only [locBel, Bool.and_eq_true]
  exact ⟨belAll_of_free k _ h, hL⟩
theorem locBel_none {k : Nat} {L : Loc} (hL : locBel k L = true) : locBel k (none :: L) = true := by
  simpa [locBel] using hL
/-- Two lists are alike place by place. -/
def eqv {α : Type} (f : α → α → Bool) (xs ys : List α) : Bool :=
  decide (xs.length = ys.length) && (List.range xs.length).all fun i => match xs[i]?, ys[i]? with
    | some x, some y => f x y
    | _, _ => true
theorem eqv_len {α : Type} {f : α → α → Bool} {xs ys : List α} (h : xs.length ≠ ys.length) : eqv f xs ys = false := by simp [eqv, h]
theorem eqv_true {α : Type} {f : α → α → Bool} {xs ys : List α} (h : xs.length = ys.length) (hp : ∀ i (h1 : i < xs.length) (h2 : i < ys.length), f xs[i] ys[i] = true) : eqv f xs ys = true := by
  simp only [eqv, h, decide_true, Bool.true_and, List.all_eq_true, List.mem_range]
  intro i hi
  rw [List.getElem?_eq_getElem (by omega), List.getElem?_eq_getElem hi]
  exact hp i (by omega) hi
theorem eqv_false {α : Type} {f : α → α → Bool} {xs ys : List α} (i : Nat) (h1 : i < xs.length) (h2 : i < ys.length) (hp : f xs[i] ys[i] = false) : eqv f xs ys = false := by
  by_cases h : xs.length = ys.length
  · simp only [eqv, h, decide_true, Bool.true_and, List.all_eq_false, List.mem_range]
    refine ⟨i, h2, ?_⟩
    rw [List.getElem?_eq_getElem h1, List.getElem?_eq_getElem h2]
    simp [hp]
  · exact eqv_len h
theorem eqv_refl {α : Type} {f : α → α → Bool} {xs : List α} (hp : ∀ x ∈ xs, f x x = true) : eqv f xs xs = true := eqv_true rfl fun _ h1 _ => hp _ (List.getElem_mem h1)

theorem splice_arr' {n : Nat} {f : Nat → D} {i j : Nat} (h : i < n) (hj : j = i) (d : D) : splice (arr n f) j [d] = arr n fun j => if j = i then d else f j := by
  subst hj; exact splice_arr h d
theorem splice_arrf {β : Type} {el : β → D} {n : Nat} {f : Nat → β} {i j : Nat} (h : i < n) (hj : j = i) (v : β) : splice (arr n fun i => el (f i)) j [el v] = arr n fun j => el (if j = i then v else f j) := by
  rw [splice_arr' h hj]
  refine arr_congr fun k _ => ?_
  split <;> rfl
theorem splice_fill' {α : Type} {enc : α → List D} {es : Nat} (hf : ∀ x, (enc x).length = es) {zs : List D} (hz : zs.length = es) {xs : List α} {k j : Nat} (h : k < xs.length) (hj : j = k * es) : splice (fillD enc zs xs k) j (enc xs[k]) = fillD enc zs xs (k + 1) := by
  subst hj; exact splice_fill hf hz h
theorem splice_flat {α : Type} {enc : α → List D} {es : Nat} (hf : ∀ x, (enc x).length = es) {xs : List α} {k j : Nat} (h : k < xs.length) (hj : j = k * es) (v : α) : splice (xs.flatMap enc) j (enc v) = (xs.set k v).flatMap enc := by
  subst hj
  have h1 : ((xs.take k).flatMap enc).length = k * es := by rw [flat_length hf, List.length_take, Nat.min_eq_left (by omega)]
  have h2 : xs.flatMap enc = (xs.take k).flatMap enc ++ (enc xs[k] ++ (xs.drop (k + 1)).flatMap enc) := by
    rw [← List.flatMap_cons, ← List.drop_eq_getElem_cons h, ← List.flatMap_append, List.take_append_drop]
  rw [List.set_eq_take_append_cons_drop, if_pos h, List.flatMap_append, List.flatMap_cons]
  unfold splice
  rw [h2, List.take_left' h1, hf, ← List.append_assoc, List.drop_left' (by rw [List.length_append, h1, hf])]
  simp
theorem splice_rows {β : Type} {enc : β → List D} {es : Nat} (hf : ∀ x, (enc x).length = es) {n : Nat} {m : Nat → β} {k j : Nat} (h : k < n) (hj : j = k * es) (v : β) :
    splice ((List.range n).flatMap fun i => enc (m i)) j (enc v) = (List.range n).flatMap fun i => enc (if i = k then v else m i) := by
  have e : ∀ g : Nat → β, (List.range n).flatMap (fun i => enc (g i)) = ((List.range n).map g).flatMap enc := fun g => by rw [List.flatMap_map]
  rw [e, e, splice_flat hf (by simpa using h) hj]
  congr 1
  apply List.ext_getElem?
  intro i
  simp only [List.getElem?_set, List.getElem?_map, List.length_map, List.length_range]
  by_cases hi : i < n
  · rw [List.getElem?_range hi]
    by_cases e : k = i
    · subst e; simp [hi]
    · simp [e, Ne.symm e]
  · rw [List.getElem?_eq_none (l := List.range n) (by simp; omega)]
    rw [if_neg (by omega)]; rfl
theorem part_rows {β : Type} {enc : β → List D} {es : Nat} (hf : ∀ x, (enc x).length = es) {n : Nat} {m : Nat → β} {k : Nat} (h : k < n) : partD true es (((List.range n).flatMap fun i => enc (m i)).drop (k * es)) = some (.agg (enc (m k))) := by
  have := part_flat (f := fun i => enc (m i)) (es := es) (fun i => hf _) (xs := List.range n) (i := k) (by simpa using h)
  simpa using this
/-- A loop with two things that turn. -/
theorem AW_loop_of2 {P : Program} {Q : Exit → St → Prop} {s : St} {c : Code} {α β : Type} (sz : Nat) (f : α → β → List (Nat × D)) (L : α → β → Loc) (I : α → β → Prop) (μ : α → β → Nat) (k : Nat) (hk : ∀ x y, (L x y).length = k) (hs : s.loc.length ≤ k) (x0 : α) (y0 : β) (h0 : I x0 y0)
    (hl : Loosens s (stOf sz (f x0 y0) (L x0 y0)))
    (round : ∀ x y, I x y → AW P c (thenQ (fun s' => ∃ x' y', I x' y' ∧ μ x' y' < μ x y ∧ Loosens s' (stOf sz (f x' y') (L x' y'))) Q) (stOf sz (f x y) (L x y))) : AW P (.loop c) Q s := by
  refine AW_loop_of sz (fun p : α × β => f p.1 p.2) (fun p => L p.1 p.2) (fun p => I p.1 p.2) (fun p => μ p.1 p.2) k (fun p => hk p.1 p.2) hs (x0, y0) h0 hl ?_
  rintro ⟨x, y⟩ hI
  have h := round x y hI
  have e : (fun s' => ∃ y' : α × β, I y'.1 y'.2 ∧ μ y'.1 y'.2 < μ x y ∧ Loosens s' (stOf sz (f y'.1 y'.2) (L y'.1 y'.2))) = fun s' => ∃ x' y', I x' y' ∧ μ x' y' < μ x y ∧ Loosens s' (stOf sz (f x' y') (L x' y')) := by
    funext s'
    exact propext ⟨fun ⟨⟨a, b⟩, h1⟩ => ⟨a, b, h1⟩, fun ⟨a, b, h1⟩ => ⟨(a, b), h1⟩⟩
  simp only [e]
  exact h

/-! what the laws' sizes leave -/
def szL (n : Nat) (left : Int) : Int := if left - n < 0 then -1 else left - n
def szF {α : Type} (f : α → Int → Int) : List α → Int → Int
  | [], l => l
  | x :: xs, l => if f x l < 0 then -1 else szF f xs (f x l)
def szS {α : Type} (f : α → Int → Int) (xs : List α) (left : Int) : Int := if szL xs.length left < 0 then -1 else szF f xs (szL xs.length left)
theorem szL_le {n : Nat} {l : Int} (h : 0 ≤ szL n l) : (n : Int) ≤ l ∧ szL n l ≤ l := by
  unfold szL at *; split at h <;> split <;> omega
theorem szL_lt {n : Nat} {l : Int} (h : l < 9223372036854775807) : szL n l < 9223372036854775807 ∧ -1 ≤ szL n l := by unfold szL; split <;> omega

section
variable {P : Program} {o : Oper} {s : St}
/-- Reading a cell of an array or a slice. -/
theorem QOp_load_at {t n : Nat} {ag : Bool} {x : Operand} {cs : List D} {d : D} [ht : TElm P t n ag] (ho : o.op = .load t x) (hc : rdCells s.loc (s.ev x) = some cs) (hd : partD ag n cs = some d) : QOp P o s d := QOp_load ho hc hd
theorem QOp_load_arr {t n i j : Nat} {x : Operand} {f : Nat → D} [ht : TElm P t 1 false] (ho : o.op = .load t x) (hc : rdCells s.loc (s.ev x) = some ((arr n f).drop j)) (hj : j = i) (hi : i < n) : QOp P o s (f i) :=
  QOp_load ho hc (by rw [hj]; exact part_arr hi)
theorem QOp_call_eq {f : FuncId} {xs : Array Operand} {ts : Array TypeId} {ds ds' : List D} {r : D} (hc : Pure P f ds r) (ho : o.op = .call { callee := .value (.func f), args := xs, argTypes := ts }) (hds : xs.toList.map s.ev = ds') (he : ds' = ds) (hfr : D.freeAll ds = true) (hfree : r.free = true) : QOp P o s r :=
  QOp_call hc ho (hds.trans he) hfr hfree
theorem QOp_load_rows {β : Type} {enc : β → List D} {es : Nat} (hf : ∀ x, (enc x).length = es) {t n k j : Nat} {x : Operand} {m : Nat → β} [ht : TElm P t es true] (ho : o.op = .load t x) (hc : rdCells s.loc (s.ev x) = some (((List.range n).flatMap fun i => enc (m i)).drop j)) (hj : j = k * es) (hi : k < n) : QOp P o s (.agg (enc (m k))) :=
  QOp_load ho hc (by rw [hj]; exact part_rows hf hi)
/-- Reading an element of a slice: one cell; a struct. -/
theorem QOp_load_s1 {α : Type} {g : α → D} {xs : List α} {t k j : Nat} {x : Operand} [ht : TElm P t 1 false] (ho : o.op = .load t x) (hc : rdCells s.loc (s.ev x) = some ((xs.flatMap (one1 g)).drop j)) (hj : j = k * 1) (hi : k < xs.length) : QOp P o s (g xs[k]) :=
  QOp_load ho hc (by rw [hj]; exact part_one hi)
theorem QOp_load_sa {α : Type} {enc : α → List D} {es : Nat} (hf : ∀ x, (enc x).length = es) {xs : List α} {t k j : Nat} {x : Operand} [ht : TElm P t es true] (ho : o.op = .load t x) (hc : rdCells s.loc (s.ev x) = some ((xs.flatMap enc).drop j)) (hj : j = k * es) (hi : k < xs.length) : QOp P o s (.agg (enc xs[k])) :=
  QOp_load ho hc (by rw [hj]; exact part_flat hf hi)
theorem QOp_len_sl' {α : Type} {enc : α → List D} {es : Nat} (hf : ∀ x, (enc x).length = es) (h0 : decide (0 < es) = true) {xs : List α} {t : Nat} {x : Operand} {n : Nat} {ag : Bool} [ht : TSlc P t n ag] (ho : o.op = .call { callee := .builtin .len, args := #[x], argTypes := #[t] }) (hx : s.ev x = .slc es (xs.flatMap enc)) : QOp P o s (.int .i64 xs.length) := by
  have h0' : 0 < es := of_decide_eq_true h0
  refine QOp_len_sl (es := es) (len := xs.length) (cs := xs.flatMap enc) ho ?_
  rw [hx]
  simp only [slCells]
  rw [if_pos h0', flat_length hf, Nat.mul_div_cancel _ h0']
theorem QOp_indexAddr_se {α : Type} {enc : α → List D} {es : Nat} (hf : ∀ x, (enc x).length = es) {xs : List α} {k : Nat} (hlt : k < xs.length) {t : Nat} {ag : Bool} {x ix : Operand} {kd : IntKind} {i : Int} [ht : TSlc P t es ag] (ho : o.op = .indexAddr t x ix) (hx : s.ev x = .slc es (xs.flatMap enc)) (hi : s.ev ix = .int kd i) (hk : i = (k : Int)) :
    QOp P o s (.sptr ((xs.flatMap enc).drop (k * es))) := by
  subst hk
  refine QOp_indexAddr_s ho hx hi ⟨by omega, ?_⟩
  rw [flat_length hf, Int.toNat_natCast, ← Nat.succ_mul]
  exact Nat.mul_le_mul_right _ hlt
theorem QOp_indexAddr_re {k len : Nat} {t es : Nat} {ag : Bool} {x ix : Operand} {kd : IntKind} {i : Int} {id g : Nat} (hlt : k < len) [ht : TSlc P t es ag] (ho : o.op = .indexAddr t x ix) (hx : s.ev x = .row id g es len) (hi : s.ev ix = .int kd i)
    (hl : curOf s.loc id = some g) (hk : i = (k : Int)) : QOp P o s (.ptr id g (k * es)) := by
  subst hk
  exact QOp_indexAddr_r ho hx hi hl ⟨by omega, by omega⟩
variable {K : St → Prop}
/-- A store, with the cells as they then are. -/
theorem M_store_e1 {t : Nat} {x y : Operand} {id g off : Nat} {B : Box} {d : D} {cs' : List D} [ht : TElm P t 1 false] (ho : o.op = .store t x y) (hx : s.ev x = .ptr id g off) (hB : s.loc[id]? = some (some B)) (hg : B.cells.length = g)
    (hy : s.ev y = d) (hds : d.one s.loc = true) (hfit : off + 1 ≤ g) (hdst : o.dst = none) (he : splice B.cells off [d] = cs')
    (hK : K { s with loc := s.loc.set id (some { B with cells := cs' }) }) : SOp P o K s := by
  subst he
  exact SOp_store (ds := [d]) ho hx hB hg hy (cellsD_one hds) rfl (by omega) hdst hK
theorem M_store_ea {t n : Nat} {x y : Operand} {id g off : Nat} {B : Box} {cs cs' : List D} [ht : TElm P t n true] (ho : o.op = .store t x y) (hx : s.ev x = .ptr id g off) (hB : s.loc[id]? = some (some B)) (hg : B.cells.length = g)
    (hy : s.ev y = .agg cs) (hds : cs.all (D.one s.loc) = true) (hn : cs.length = n) (hfit : off + n ≤ g) (hdst : o.dst = none) (he : splice B.cells off cs = cs')
    (hK : K { s with loc := s.loc.set id (some { B with cells := cs' }) }) : SOp P o K s := by
  subst he
  exact SOp_store ho hx hB hg hy (cellsD_agg hds) hn (by omega) hdst hK
end

/-- A view of a variable of the walk's own, lent. -/
def D.isSlc : D → Bool
  | .slc _ _ => true
  | _ => false
theorem conv_sl {L : Loc} {d : D} {es len : Nat} {cs : List D} (h : slCells L d = some (es, len, cs)) (hl : len ≤ maxLen) (hf : D.freeAll cs = true) (hn : d.isSlc = false) : Conv L d (.slc es cs) :=
  .sl d es len cs cs h hl rfl (fun _ c c' h1 h2 => by rw [h1] at h2; cases h2; exact .free _ ((D.freeAll_iff cs).1 hf c (List.mem_of_getElem? h1))) hf (fun es' cs' e => by subst e; cases hn)
theorem conv_ptr {L : Loc} {id g off : Nat} {cs : List D} (h : rdCells L (.ptr id g off) = some cs) (hf : D.freeAll cs = true) : Conv L (.ptr id g off) (.sptr cs) :=
  .ptr id g off cs cs h (Nat.le_refl _) (fun _ c c' h1 h2 => by rw [h1] at h2; cases h2; exact .free _ ((D.freeAll_iff cs).1 hf c (List.mem_of_getElem? h1))) hf
end Go.Proofs.YtcgocdcbceeoiaaGreat
