/-
  Loops: states told by lists of slots; what stands at a loop's head; stores and endings in the forms that the walking text uses.
-/
import Derived.Test.YtcgocdcbceeoiaaGreatA8
namespace Go.Proofs.YtcgocdcbceeoiaaGreat
open Go

mutual
/-- Every variable of the walk's own that is named has a number below k. -/
def D.bel (k : Nat) : D → Bool
  | .agg cs | .tup cs | .fn _ cs => D.belAll k cs
  | .ptr id .. | .ms id .. | .row id .. => decide (id < k)
  | .iface _ d => d.bel k
  | _ => true
def D.belAll (k : Nat) : List D → Bool
  | [] => true
  | d :: r => d.bel k && D.belAll k r
end
theorem D.belAll_at {k : Nat} : ∀ {l : List D} (_ : D.belAll k l = true) {i : Nat} {d : D} (_ : l[i]? = some d), d.bel k = true
  | [], _, i, d, h => by simp at h
  | c :: l, h, i, d, hd => by
    simp only [D.belAll, Bool.and_eq_true] at h
    cases i with
    | zero => simp at hd; subst hd; exact h.1
    | succ i => simp at hd; exact D.belAll_at h.2 hd

def cutEnv (E : Env) (k : Nat) : Env := { E with n := k, c := fun id => if id < k then E.c id else none }

theorem Rep.cut {E : Env} {k : Nat} {w : World} {v : Value} {d : D} (r : Rep E w v d) (hb : d.bel k = true) : Rep (cutEnv E k) w v d := by
  induction r with
  | any v => exact .any v
  | int k n => exact .int k n
  | bool b => exact .bool b
  | flt k b x e => exact .flt k b x e
  | str s => exact .str s
  | agg vs ds hl _ ih => exact .agg vs ds hl fun i v d h1 h2 => ih i v d h1 h2 (D.belAll_at (by simpa [D.bel] using hb) h2)
  | tup vs ds hl _ ih => exact .tup vs ds hl fun i v d h1 h2 => ih i v d h1 h2 (D.belAll_at (by simpa [D.bel] using hb) h2)
  | slc a len cap es ds b off f h1 h2 h3 h4 h5 h6 hfr _ => exact .slc a len cap es ds b off f h1 h2 h3 h4 h5 (fun i d hd => Rep.free (E := E) (E' := cutEnv E k) (w := w) (w' := w) (fun _ h => h) (fun _ _ => rfl) (h6 i d hd) (D.freeAll_at hfr hd)) hfr
  | emp a => exact .emp a
  | sptr b off ds f h4 h5 h6 hfr _ => exact .sptr b off ds f h4 h5 (fun i d hd => Rep.free (E := E) (E' := cutEnv E k) (w := w) (w' := w) (fun _ h => h) (fun _ _ => rfl) (h6 i d hd) (D.freeAll_at hfr hd)) hfr
  | ptr v id g off h1 h2 h3 =>
    have hid : id < k := by simpa [D.bel] using hb
    exact .ptr v id g off hid (fun g0 hg => h2 g0 (by simpa [cutEnv, hid] using hg)) fun hg => h3 (by simpa [cutEnv, hid] using hg)
  | ms v id g off es len h1 h2 h3 =>
    have hid : id < k := by simpa [D.bel] using hb
    exact .ms v id g off es len hid (fun g0 hg => h2 g0 (by simpa [cutEnv, hid] using hg)) fun hg => h3 (by simpa [cutEnv, hid] using hg)
  | row v id g es len h1 h2 h3 =>
    have hid : id < k := by simpa [D.bel] using hb
    exact .row v id g es len hid (fun g0 hg => h2 g0 (by simpa [cutEnv, hid] using hg)) fun hg => h3 (by simpa [cutEnv, hid] using hg)
  | fn f vs ds hl _ ih => exact .fn f vs ds hl fun i v d h1 h2 => ih i v d h1 h2 (D.belAll_at (by simpa [D.bel] using hb) h2)
  | nilIface => exact .nilIface
  | iface t v d _ ih => exact .iface t v d (ih (by simpa [D.bel] using hb))

def lk : List (Nat × D) → Nat → D
  | [], _ => .any
  | (t, d) :: r, i => cond (Nat.beq i t) d (lk r i)
theorem lk_cons (t : Nat) (d : D) (r : List (Nat × D)) (i : Nat) : lk ((t, d) :: r) i = if i = t then d else lk r i := upd_apply (lk r) t d i
/-- A state told by its slots: what is not told may be anything. -/
def stOf (sz : Nat) (l : List (Nat × D)) (L : Loc) : St := { sz := sz, get := lk l, loc := L }

def Slots (s : St) (k : Nat) : List (Nat × D) → Prop
  | [] => True
  | (t, d) :: r => s.get t = d ∧ d.bel k = true ∧ Slots s k r
def locBel (k : Nat) : Loc → Bool
  | [] => true
  | none :: r => locBel k r
  | some B :: r => D.belAll k B.cells && locBel k r
theorem locBel_at {k : Nat} : ∀ {L : Loc} (_ : locBel k L = true) {i : Nat} {B : Box} (_ : L[i]? = some (some B)), D.belAll k B.cells = true
  | [], _, i, B, h => by simp at h
  | x :: L, h, i, B, hB => by
    cases i with
    | zero =>
      simp at hB; subst hB
      simp only [locBel, Bool.and_eq_true] at h; exact h.1
    | succ i =>
      simp at hB
      cases x with
      | none => exact locBel_at (by simpa [locBel] using h) hB
      | some C => simp only [locBel, Bool.and_eq_true] at h; exact locBel_at h.2 hB

theorem loosens_of {s : St} {sz : Nat} {l : List (Nat × D)} {L : Loc} (hsz : s.sz = sz) (hl : s.loc.take L.length = L) (hb : locBel L.length L = true) (hs : Slots s L.length l) : Loosens s (stOf sz l L) := by
  intro E a w hS
  have hlen : L.length ≤ s.loc.length := by
    have := congrArg List.length hl
    simp at this; omega
  have hpre : ∀ (i : Nat), i < L.length → s.loc[i]? = L[i]? := by
    intro i hi
    conv => rhs; rw [← hl]
    rw [List.getElem?_take, if_pos hi]
  have hcur : ∀ id, curOf L id = if id < L.length then curOf s.loc id else none := by
    intro id
    unfold curOf
    split
    · rw [hpre id ‹_›]
    · rw [List.getElem?_eq_none (by omega)]; rfl
  refine ⟨cutEnv E L.length, ⟨hS.defers, by rw [hS.size, hsz]; rfl, fun t => ?_, ⟨rfl, fun id => ?_, fun id B hB => ?_, fun i j Bi Bj b cb cb' hij hi hj => ?_, hS.mem.ltS, hS.mem.ltF⟩⟩, fun E0 w0 hn hev => ?_⟩
  · show Rep _ _ _ (lk l t)
    have hreg := hS.reg
    clear hb
    induction l with
    | nil => exact .any _
    | cons p l ih =>
      obtain ⟨u, d⟩ := p
      simp only [Slots] at hs
      rw [lk_cons]
      split
      · rename_i e; subst e
        have := hreg t
        rw [hs.1] at this
        exact this.cut hs.2.1
      · exact ih hs.2.2
  · show (cutEnv E L.length).c id = curOf L id
    rw [hcur]; simp only [cutEnv, hS.mem.c]
  · have hid : id < L.length := (List.getElem?_eq_some_iff.1 hB).1
    rcases hS.mem.box id B (by rw [hpre id hid]; exact hB) with h | ⟨b, cap, cur, t, h1, h2, h3, h4, h5, h6, h7⟩
    · exact .inl h
    · exact .inr ⟨b, cap, cur, t, h1, h2, h3, h4, h5, h6, fun i v d g1 g2 => (h7 i v d g1 g2).cut (D.belAll_at (locBel_at hb hB) g2)⟩
  · have hid : i < L.length := (List.getElem?_eq_some_iff.1 hi).1
    have hjd : j < L.length := (List.getElem?_eq_some_iff.1 hj).1
    exact hS.mem.sep i j Bi Bj b cb cb' hij (by rw [hpre i hid]; exact hi) (by rw [hpre j hjd]; exact hj)
  · have hn' : E0.n ≤ L.length := hn
    refine ⟨hev.os, hev.tape, hev.output, hev.size, hev.F, hev.S, hev.heap, hev.newS, fun id b cap h1 h2 h3 => ?_, hn, fun id hid g' hg => ?_⟩
    · have hid : id < L.length := h1
      refine hev.newβ id b cap (by rw [hS.mem.n]; omega) ?_ h3
      simpa [cutEnv, hid] using h2
    · exact hev.live id hid g' (by simpa [cutEnv, show id < L.length by omega] using hg)

/-- A loop whose head is told by slots, for a family of them. -/
theorem AW_loop_of {P : Program} {Q : Exit → St → Prop} {s : St} {c : Code} {α : Type} (sz : Nat) (f : α → List (Nat × D)) (L : α → Loc) (I : α → Prop) (μ : α → Nat) (k : Nat) (hk : ∀ x, (L x).length = k) (hs : s.loc.length ≤ k) (x0 : α) (h0 : I x0)
    (hl : Loosens s (stOf sz (f x0) (L x0)))
    (round : ∀ x, I x → AW P c (thenQ (fun s' => ∃ y, I y ∧ μ y < μ x ∧ Loosens s' (stOf sz (f y) (L y))) Q) (stOf sz (f x) (L x))) : AW P (.loop c) Q s :=
  AW_loop (fun x => stOf sz (f x) (L x)) I μ k hk hs x0 h0 hl round

section
variable {P : Program} {o : Oper} {s : St} {K : St → Prop}
theorem cellsD_agg {L : Loc} {cs : List D} (h : cs.all (D.one L) = true) : cellsD L (.agg cs) = some cs := by simp [cellsD, h]
theorem cellsD_one {L : Loc} {d : D} (h : d.one L = true) : cellsD L d = some [d] := by cases d <;> simp_all [cellsD, D.one]
theorem M_box_agg {t : TypeId} {x : Operand} {cs : List D} (ho : o.op = .box t x) (hx : s.ev x = .agg cs) (hc : cs.all (D.one s.loc) = true) (hd : dstOk o s = true)
    (hK : K ((s.push ⟨0, cs⟩).put o.dst (.ptr s.loc.length cs.length 0))) : SOp P o K s := SOp_box ho hx (cellsD_agg hc) hd hK
theorem M_box_one {t : TypeId} {x : Operand} {d : D} (ho : o.op = .box t x) (hx : s.ev x = d) (hc : d.one s.loc = true) (hd : dstOk o s = true)
    (hK : K ((s.push ⟨0, [d]⟩).put o.dst (.ptr s.loc.length 1 0))) : SOp P o K s := SOp_box (cs := [d]) ho hx (cellsD_one hc) hd hK
theorem splice_whole {l r : List D} (h : r.length = l.length) : splice l 0 r = r := by simp [splice, h]
/-- The whole of a variable is written. -/
theorem M_store_w {t n : Nat} {x y : Operand} {id g : Nat} {B : Box} {cs : List D} [ht : TElm P t n true] (ho : o.op = .store t x y) (hx : s.ev x = .ptr id g 0) (hB : s.loc[id]? = some (some B)) (hg : B.cells.length = g)
    (hy : s.ev y = .agg cs) (hds : cs.all (D.one s.loc) = true) (hn : cs.length = n) (hfit : n = g) (hdst : o.dst = none)
    (hK : K { s with loc := s.loc.set id (some { B with cells := cs }) }) : SOp P o K s :=
  SOp_store ho hx hB hg hy (cellsD_agg hds) hn (by omega) hdst (by rw [splice_whole (by omega)]; exact hK)
/-- The same as 'splice', told so that each cell is looked up without copies of the list. -/
def spl : List D → Nat → List D → List D
  | l, 0, r => r ++ l.drop r.length
  | [], _ + 1, _ => []
  | x :: l, k + 1, r => x :: spl l k r
theorem splice_spl : ∀ (l : List D) (k : Nat) (r : List D), k + r.length ≤ l.length → splice l k r = spl l k r
  | l, 0, r, _ => by cases l <;> simp [splice, spl]
  | [], k + 1, r, h => by simp at h
  | x :: l, k + 1, r, h => by
    have := splice_spl l k r (by simp at h; omega)
    unfold splice at this
    unfold splice spl
    rw [show k + 1 + r.length = (k + r.length) + 1 by omega, List.take_succ_cons, List.drop_succ_cons, ← this]
    simp
theorem M_store_a {t n : Nat} {x y : Operand} {id g off : Nat} {B : Box} {cs : List D} [ht : TElm P t n true] (ho : o.op = .store t x y) (hx : s.ev x = .ptr id g off) (hB : s.loc[id]? = some (some B)) (hg : B.cells.length = g)
    (hy : s.ev y = .agg cs) (hds : cs.all (D.one s.loc) = true) (hn : cs.length = n) (hfit : off + n ≤ g) (hdst : o.dst = none)
    (hK : K { s with loc := s.loc.set id (some { B with cells := spl B.cells off cs }) }) : SOp P o K s :=
  SOp_store ho hx hB hg hy (cellsD_agg hds) hn (by omega) hdst (by rw [splice_spl _ _ _ (by omega)]; exact hK)
theorem M_store_1 {t : Nat} {x y : Operand} {id g off : Nat} {B : Box} {d : D} [ht : TElm P t 1 false] (ho : o.op = .store t x y) (hx : s.ev x = .ptr id g off) (hB : s.loc[id]? = some (some B)) (hg : B.cells.length = g)
    (hy : s.ev y = d) (hds : d.one s.loc = true) (hfit : off + 1 ≤ g) (hdst : o.dst = none)
    (hK : K { s with loc := s.loc.set id (some { B with cells := spl B.cells off [d] }) }) : SOp P o K s :=
  SOp_store (ds := [d]) ho hx hB hg hy (cellsD_one hds) rfl (by omega) hdst (by rw [splice_spl _ _ _ (by simp; omega)]; exact hK)
end

/-! endings -/
section
variable {P : Program} {s : St} {R : Loc → D → Prop}
theorem End_1 {t : Tmp} {d : D} (h : s.get t = d) (hR : R s.loc d) : endQ P [.tmp t] R .ret s := ⟨_, .one _ _ (.tmp t), by rw [h]; exact hR⟩
theorem End_2 {t u : Tmp} {d e : D} (h : s.get t = d) (k : s.get u = e) (hR : R s.loc (.tup [d, e])) : endQ P [.tmp t, .tmp u] R .ret s := ⟨_, .two _ _ _ _ (.tmp t) (.tmp u), by rw [h, k]; exact hR⟩
theorem End_3 {t u v : Tmp} {d e f : D} (h : s.get t = d) (k : s.get u = e) (l : s.get v = f) (hR : R s.loc (.tup [d, e, f])) : endQ P [.tmp t, .tmp u, .tmp v] R .ret s := ⟨_, .three _ _ _ _ _ _ (.tmp t) (.tmp u) (.tmp v), by rw [h, k, l]; exact hR⟩
theorem End_a {a : Tmp} {t n : Nat} {cs : List D} [ht : TElm P t n true] (hc : rdCells s.loc (s.get a) = some cs) (hn : cs.length = n) (hR : R s.loc (.agg cs)) : endQ P [.cell a t] R .ret s :=
  ⟨_, .one _ _ (.agg a t n cs ht.agg hc (by omega)), by rw [List.take_of_length_le (by omega)]; exact hR⟩
theorem End_a1 {a u : Tmp} {t n : Nat} {cs : List D} {e : D} [ht : TElm P t n true] (hc : rdCells s.loc (s.get a) = some cs) (hn : cs.length = n) (k : s.get u = e) (hR : R s.loc (.tup [.agg cs, e])) : endQ P [.cell a t, .tmp u] R .ret s :=
  ⟨_, .two _ _ _ _ (.agg a t n cs ht.agg hc (by omega)) (.tmp u), by rw [List.take_of_length_le (by omega), k]; exact hR⟩
theorem End_a2 {a u v : Tmp} {t n : Nat} {cs : List D} {e f : D} [ht : TElm P t n true] (hc : rdCells s.loc (s.get a) = some cs) (hn : cs.length = n) (k : s.get u = e) (l : s.get v = f) (hR : R s.loc (.tup [.agg cs, e, f])) : endQ P [.cell a t, .tmp u, .tmp v] R .ret s :=
  ⟨_, .three _ _ _ _ _ _ (.agg a t n cs ht.agg hc (by omega)) (.tmp u) (.tmp v), by rw [List.take_of_length_le (by omega), k, l]; exact hR⟩
end

/-! rows of elements -/
theorem flat_length {α : Type} {f : α → List D} {es : Nat} (hf : ∀ x, (f x).length = es) : ∀ (xs : List α), (xs.flatMap f).length = xs.length * es
  | [] => by simp
  | x :: xs => by simp [flat_length hf xs, hf x, Nat.add_mul]; omega
theorem flat_drop {α : Type} {f : α → List D} {es : Nat} (hf : ∀ x, (f x).length = es) : ∀ (xs : List α) (i : Nat), (xs.flatMap f).drop (i * es) = (xs.drop i).flatMap f
  | [], i => by simp
  | x :: xs, 0 => by simp
  | x :: xs, i + 1 => by
    rw [List.flatMap_cons, List.drop_succ_cons, ← flat_drop hf xs i]
    rw [List.drop_append, List.drop_of_length_le (by rw [hf x, Nat.add_mul]; omega), hf x, List.nil_append, Nat.add_mul, Nat.one_mul, Nat.add_sub_cancel]
theorem part_flat {α : Type} {f : α → List D} {es : Nat} (hf : ∀ x, (f x).length = es) {xs : List α} {i : Nat} (h : i < xs.length) : partD true es ((xs.flatMap f).drop (i * es)) = some (.agg (f xs[i])) := by
  rw [flat_drop hf, List.drop_eq_getElem_cons h, List.flatMap_cons]
  simp [partD, hf]
end Go.Proofs.YtcgocdcbceeoiaaGreat
namespace Go.Proofs.YtcgocdcbceeoiaaGreat
open Go
section
variable {K : St → Prop} {Q : Exit → St → Prop} {s : St} {id id' : Nat}
theorem Tq_n (h : K s) : thenQ K Q .normal s := h
theorem Tq_r (h : Q .ret s) : thenQ K Q .ret s := h
theorem Tq_e (h : Q (.exit id) s) : thenQ K Q (.exit id) s := h
theorem Bq_n (h : Q .normal s) : blockQ id Q .normal s := h
theorem Bq_r (h : Q .ret s) : blockQ id Q .ret s := h
theorem Bq_y (h : Q .normal s) (e : decide (id' = id) = true) : blockQ id Q (.exit id') s := by simp only [blockQ]; rw [if_pos (by simpa using e)]; exact h
theorem Bq_x (h : Q (.exit id') s) (e : decide (id' = id) = false) : blockQ id Q (.exit id') s := by simp only [blockQ]; rw [if_neg (by simpa using e)]; exact h
theorem AW_cond_s {P : Program} {c : Operand} {x y : Code} {b : Bool} (hc : s.ev c = .bool b) (ht : b = true → AW P x Q s) (hf : b = false → AW P y Q s) : AW P (.cond c x y) Q s := AW_cond hc ht hf
end
end Go.Proofs.YtcgocdcbceeoiaaGreat
namespace Go.Proofs.YtcgocdcbceeoiaaGreat
open Go
mutual
theorem bel_of_free (k : Nat) : ∀ d : D, d.free = true → d.bel k = true
  | .any, _ | .int .., _ | .bool _, _ | .flt .., _ | .str _, _ | .slc .., _ | .emp, _ | .sptr _, _ | .nilIface, _ => rfl
  | .agg cs, h => by simp only [D.bel]; exact belAll_of_free k cs (by simpa [D.free] using h)
  | .tup cs, h => by simp only [D.bel]; exact belAll_of_free k cs (by simpa [D.free] using h)
  | .fn _ cs, h => by simp only [D.bel]; exact belAll_of_free k cs (by simpa [D.free] using h)
  | .ptr .., h => by simp [D.free] at h
  | .ms .., h => by simp [D.free] at h
  | .row .., h => by simp [D.free] at h
  | .iface _ d, h => by simp only [D.bel]; exact bel_of_free k d (by simpa [D.free] using h)
theorem belAll_of_free (k : Nat) : ∀ l : List D, D.freeAll l = true → D.belAll k l = true
  | [], _ => rfl
  | d :: l, h => by
    simp only [D.freeAll, Bool.and_eq_true] at h
    simp only [D.belAll, bel_of_free k d h.1, belAll_of_free k l h.2, Bool.and_self]
end
section
variable {P : Program} {ops : Array Oper} {l : List Oper} {K : St → Prop} {s : St} {dst : Option Tmp} {op : Op} {ty : TypeId} {pos : String} {after : Array Edge} {Q : Exit → St → Prop}
theorem S_kt {j : Nat} {gb : Bool} {t : Tmp} {b : Bool} (_hj : gslot ops j = some t) (ht : s.get t = .bool b) (hb : b = true)
    (h : SOps P ops (⟨dst, op, ty, pos, after, some (j, gb)⟩ :: l) K (s.put (some t) (.bool true))) : SOps P ops (⟨dst, op, ty, pos, after, some (j, gb)⟩ :: l) K s :=
  SOps_split t ht (fun _ => h) (fun e => by rw [hb] at e; cases e)
theorem S_kf {j : Nat} {gb : Bool} {t : Tmp} {b : Bool} (_hj : gslot ops j = some t) (ht : s.get t = .bool b) (hb : b = false)
    (h : SOps P ops (⟨dst, op, ty, pos, after, some (j, gb)⟩ :: l) K (s.put (some t) (.bool false))) : SOps P ops (⟨dst, op, ty, pos, after, some (j, gb)⟩ :: l) K s :=
  SOps_split t ht (fun e => by rw [hb] at e; cases e) (fun _ => h)
theorem D_kt {j : Nat} {gb : Bool} {t : Tmp} {b : Bool} (_hj : gslot ops j = some t) (ht : s.get t = .bool b) (hb : b = true)
    (h : QOps P ops (⟨dst, op, ty, pos, after, some (j, gb)⟩ :: l) K (s.put (some t) (.bool true))) : QOps P ops (⟨dst, op, ty, pos, after, some (j, gb)⟩ :: l) K s :=
  QOps_split t ht (fun _ => h) (fun e => by rw [hb] at e; cases e)
theorem D_kf {j : Nat} {gb : Bool} {t : Tmp} {b : Bool} (_hj : gslot ops j = some t) (ht : s.get t = .bool b) (hb : b = false)
    (h : QOps P ops (⟨dst, op, ty, pos, after, some (j, gb)⟩ :: l) K (s.put (some t) (.bool false))) : QOps P ops (⟨dst, op, ty, pos, after, some (j, gb)⟩ :: l) K s :=
  QOps_split t ht (fun e => by rw [hb] at e; cases e) (fun _ => h)
theorem AW_cond_kt {c : Operand} {x y : Code} {b : Bool} (hc : s.ev c = .bool b) (hb : b = true) (h : AW P x Q s) : AW P (.cond c x y) Q s := AW_cond hc (fun _ => h) (fun e => by rw [hb] at e; cases e)
theorem AW_cond_kf {c : Operand} {x y : Code} {b : Bool} (hc : s.ev c = .bool b) (hb : b = false) (h : AW P y Q s) : AW P (.cond c x y) Q s := AW_cond hc (fun e => by rw [hb] at e; cases e) (fun _ => h)
end
end Go.Proofs.YtcgocdcbceeoiaaGreat
namespace Go.Proofs.YtcgocdcbceeoiaaGreat
open Go
section
variable {P : Program} {s : St}
theorem Ep_1 {t : Tmp} {r : D} (h : s.get t = r) : endQ P [.tmp t] (fun _ d => d = r) .ret s := End_1 h rfl
theorem Ep_2 {t u : Tmp} {d e : D} (h : s.get t = d) (k : s.get u = e) : endQ P [.tmp t, .tmp u] (fun _ x => x = .tup [d, e]) .ret s := End_2 h k rfl
theorem Ep_3 {t u v : Tmp} {d e f : D} (h : s.get t = d) (k : s.get u = e) (l : s.get v = f) : endQ P [.tmp t, .tmp u, .tmp v] (fun _ x => x = .tup [d, e, f]) .ret s := End_3 h k l rfl
theorem Ep_a {a : Tmp} {t n : Nat} {cs : List D} [ht : TElm P t n true] (hc : rdCells s.loc (s.get a) = some cs) (hn : cs.length = n) : endQ P [.cell a t] (fun _ x => x = .agg cs) .ret s := End_a hc hn rfl
theorem Ep_a1 {a u : Tmp} {t n : Nat} {cs : List D} {e : D} [ht : TElm P t n true] (hc : rdCells s.loc (s.get a) = some cs) (hn : cs.length = n) (k : s.get u = e) : endQ P [.cell a t, .tmp u] (fun _ x => x = .tup [.agg cs, e]) .ret s := End_a1 hc hn k rfl
theorem Ep_a2 {a u v : Tmp} {t n : Nat} {cs : List D} {e f : D} [ht : TElm P t n true] (hc : rdCells s.loc (s.get a) = some cs) (hn : cs.length = n) (k : s.get u = e) (l : s.get v = f) : endQ P [.cell a t, .tmp u, .tmp v] (fun _ x => x = .tup [.agg cs, e, f]) .ret s := End_a2 hc hn k l rfl
end
end Go.Proofs.YtcgocdcbceeoiaaGreat
namespace Go.Proofs.YtcgocdcbceeoiaaGreat
open Go
theorem Pure_of_AW {P : Program} {f : FuncId} {fn : Func} {c : Code} {ds : List D} {r : D} (n : Nat) (rs : List ResultVar)
    (hf : P.funcs[f]? = some fn) (hname : (fn.name == "runtime.NumGoroutine") = false) (hb : fn.body = some c) (hn : fn.ntmps = n) (hrs : fn.results = rs.toArray) (hle : ds.length ≤ n)
    (h : AW P c (endQ P rs fun _ d => d = r) (entrySt n ds [])) : Pure P f ds r := SCall_of_AW n rs hf hname hb hn hrs hle h
end Go.Proofs.YtcgocdcbceeoiaaGreat
