/-
  The abstract states of the walk: plain data D for Go's values, what it means that a world bears them, and that all this is kept while the world grows.
-/
import Derived.Orders
import Derived.Tactics
import Derived.Below
import Derived.Laws.AppendOwn
import Derived.Laws.Cells
import Derived.Laws.Rows
namespace Go.Proofs.YtcgocdcbceeoiaaGreat
open Go

/-- The one NaN that stands for all. -/
def nanB : FloatKind → Nat
  | .f32 => 2143289344
  | .f64 => 9221120237041090560
def isNanB (k : FloatKind) (b : Nat) : Bool := (k.decode b).isNaN
def canon (k : FloatKind) (b : Nat) : Nat := if isNanB k b then nanB k else b

/-- A value of Go's as data. 'slc', 'sptr': memory that stays as it is; 'ptr', 'ms', 'row': variables of the walk's own, by number. -/
inductive D where
  | any
  | int (k : IntKind) (n : Int)
  | bool (b : Bool)
  | flt (k : FloatKind) (x : Nat)
  | str (s : ByteArray)
  | agg (cs : List D)
  | tup (cs : List D)
  | slc (es : Nat) (cs : List D)
  | emp
  | sptr (cs : List D)
  | ptr (id g off : Nat)
  | ms (id g off es len : Nat)
  | row (id g es len : Nat)
  | fn (f : FuncId) (cs : List D)
  | nilIface
  | iface (t : TypeId) (d : D)
  deriving Inhabited

mutual
/-- No variable of the walk's own is named. -/
def D.free : D → Bool
  | .agg cs | .tup cs | .fn _ cs => D.freeAll cs
  | .ptr .. | .ms .. | .row .. => false
  | .iface _ d => d.free
  | _ => true
def D.freeAll : List D → Bool
  | [] => true
  | d :: r => d.free && D.freeAll r
end
mutual
/-- It reads no memory. -/
def D.flat : D → Bool
  | .agg cs | .tup cs | .fn _ cs => D.flatAll cs
  | .slc _ cs => cs.isEmpty
  | .ptr .. | .ms .. | .row .. | .sptr _ => false
  | .iface _ d => d.flat
  | _ => true
def D.flatAll : List D → Bool
  | [] => true
  | d :: r => d.flat && D.flatAll r
end
theorem D.freeAll_iff (l : List D) : D.freeAll l = true ↔ ∀ d ∈ l, d.free = true := by
  induction l with
  | nil => simp [D.freeAll]
  | cons d r ih => simp [D.freeAll, ih]
theorem D.flatAll_iff (l : List D) : D.flatAll l = true ↔ ∀ d ∈ l, d.flat = true := by
  induction l with
  | nil => simp [D.flatAll]
  | cons d r ih => simp [D.flatAll, ih]
theorem D.freeAll_at {l : List D} (h : D.freeAll l = true) {i : Nat} {d : D} (hd : l[i]? = some d) : d.free = true :=
  (D.freeAll_iff l).1 h d (List.mem_of_getElem? hd)
theorem D.flatAll_at {l : List D} (h : D.flatAll l = true) {i : Nat} {d : D} (hd : l[i]? = some d) : d.flat = true :=
  (D.flatAll_iff l).1 h d (List.mem_of_getElem? hd)

structure Env where
  S : Nat → Prop
  F : Nat → Prop
  n : Nat
  β : Nat → Option (Nat × Nat)
  c : Nat → Option Nat

inductive Rep (E : Env) (w : World) : Value → D → Prop
  | any (v : Value) : Rep E w v .any
  | int (k : IntKind) (n : Int) : Rep E w (.int k n) (.int k n)
  | bool (b : Bool) : Rep E w (.bool b) (.bool b)
  | flt (k : FloatKind) (b x : Nat) : canon k b = x → Rep E w (.float k b) (.flt k x)
  | str (s : ByteArray) : Rep E w (.string s) (.str s)
  | agg (vs : Array Value) (ds : List D) : vs.size = ds.length → (∀ (i : Nat) v d, vs[i]? = some v → ds[i]? = some d → Rep E w v d) → Rep E w (.agg vs) (.agg ds)
  | tup (vs : Array Value) (ds : List D) : vs.size = ds.length → (∀ (i : Nat) v d, vs[i]? = some v → ds[i]? = some d → Rep E w v d) → Rep E w (.tuple vs) (.tup ds)
  | slc (a : Option Addr) (len cap es : Nat) (ds : List D) (b off : Nat) (f : Nat → Value) :
      ds.length = len * es → len ≤ cap → len ≤ maxLen → (ds ≠ [] → a = some ⟨b, off, none⟩ ∧ E.S b) →
      (∀ (i : Nat) d, ds[i]? = some d → w.cell? ⟨b, off + i, none⟩ = some (f i)) → (∀ (i : Nat) d, ds[i]? = some d → Rep E w (f i) d) →
      D.freeAll ds = true → Rep E w (.slice a len cap) (.slc es ds)
  | emp (a : Option Addr) : Rep E w (.slice a 0 0) .emp
  | sptr (b off : Nat) (ds : List D) (f : Nat → Value) : (ds ≠ [] → E.S b) →
      (∀ (i : Nat) d, ds[i]? = some d → w.cell? ⟨b, off + i, none⟩ = some (f i)) → (∀ (i : Nat) d, ds[i]? = some d → Rep E w (f i) d) →
      D.freeAll ds = true → Rep E w (.pointer (some ⟨b, off, none⟩)) (.sptr ds)
  | ptr (v : Value) (id g off : Nat) : id < E.n → (∀ g0, E.c id = some g0 → g ≤ g0) →
      (E.c id = some g → ∃ b cap, E.β id = some (b, cap) ∧ v = .pointer (some ⟨b, off, none⟩)) → Rep E w v (.ptr id g off)
  | ms (v : Value) (id g off es len : Nat) : id < E.n → (∀ g0, E.c id = some g0 → g ≤ g0) →
      (E.c id = some g → ∃ b cap0 cap, E.β id = some (b, cap0) ∧ v = .slice (some ⟨b, off, none⟩) len cap ∧ len ≤ cap) → Rep E w v (.ms id g off es len)
  | row (v : Value) (id g es len : Nat) : id < E.n → (∀ g0, E.c id = some g0 → g ≤ g0) →
      (E.c id = some g → (E.β id = none ∧ len = 0 ∧ ∃ a, v = .slice a 0 0) ∨ ∃ b cap, E.β id = some (b, cap) ∧ v = .slice (some ⟨b, 0, none⟩) len cap ∧ len ≤ cap) →
      Rep E w v (.row id g es len)
  | fn (f : FuncId) (vs : Array Value) (ds : List D) : vs.size = ds.length → (∀ (i : Nat) v d, vs[i]? = some v → ds[i]? = some d → Rep E w v d) →
      Rep E w (.func (.func f) #[] vs) (.fn f ds)
  | nilIface : Rep E w .nilIface .nilIface
  | iface (t : TypeId) (v : Value) (d : D) : Rep E w v d → Rep E w (.iface t v) (.iface t d)

/-- How a state of the world may go on: what is stable stays. -/
structure Ev (E : Env) (w : World) (E' : Env) (w' : World) : Prop where
  os : w'.os = w.os
  tape : w'.tape = w.tape
  output : w'.output = w.output
  size : w.heap.size ≤ w'.heap.size
  F : E'.F = E.F
  S : ∀ b, E.S b → E'.S b
  heap : ∀ b, E.S b ∨ E.F b → w'.heap[b]? = w.heap[b]?
  newS : ∀ b, E'.S b → E.S b ∨ w.heap.size ≤ b ∨ ∃ id cap, id < E.n ∧ E.c id ≠ none ∧ E.β id = some (b, cap)
  newβ : ∀ id b cap, id < E'.n → E'.c id ≠ none → E'.β id = some (b, cap) → w.heap.size ≤ b ∨ ∃ id' cap', id' < E.n ∧ E.c id' ≠ none ∧ E.β id' = some (b, cap')
  n : E.n ≤ E'.n
  live : ∀ id, id < E.n → ∀ g', E'.c id = some g' → ∃ g, E.c id = some g ∧ g ≤ g' ∧ (g = g' → E'.β id = E.β id)

theorem Ev.refl (E : Env) (w : World) : Ev E w E w :=
  ⟨rfl, rfl, rfl, Nat.le_refl _, rfl, fun _ h => h, fun _ _ => rfl, fun _ h => .inl h, fun id _ cap hi hc hβ => .inr ⟨id, cap, hi, hc, hβ⟩, Nat.le_refl _,
    fun _ _ g' h => ⟨g', h, Nat.le_refl _, fun _ => rfl⟩⟩

theorem Ev.trans {E1 E2 E3 : Env} {w1 w2 w3 : World} (h : Ev E1 w1 E2 w2) (k : Ev E2 w2 E3 w3) : Ev E1 w1 E3 w3 where
  os := k.os.trans h.os
  tape := k.tape.trans h.tape
  output := k.output.trans h.output
  size := Nat.le_trans h.size k.size
  F := k.F.trans h.F
  S b hb := k.S b (h.S b hb)
  heap b hb := (k.heap b (hb.imp (h.S b) (fun x => by rw [h.F]; exact x))).trans (h.heap b hb)
  newS b hb := by
    rcases k.newS b hb with h1 | h1 | ⟨id, cap, h1, h2, h3⟩
    · exact h.newS b h1
    · exact .inr (.inl (Nat.le_trans h.size h1))
    · exact .inr (h.newβ id b cap h1 h2 h3)
  newβ id b cap hi hc hβ := by
    rcases k.newβ id b cap hi hc hβ with h1 | ⟨id', cap', h1, h2, h3⟩
    · exact .inl (Nat.le_trans h.size h1)
    · exact h.newβ id' b cap' h1 h2 h3
  n := Nat.le_trans h.n k.n
  live id hi g3 hg := by
    obtain ⟨g2, h2, h22, h23⟩ := k.live id (Nat.lt_of_lt_of_le hi h.n) g3 hg
    obtain ⟨g1, h1, h12, h13⟩ := h.live id hi g2 h2
    refine ⟨g1, h1, Nat.le_trans h12 h22, fun e => ?_⟩
    have e1 : g1 = g2 := by omega
    have e2 : g2 = g3 := by omega
    rw [h23 e2, h13 e1]

theorem cell_of_heap {w w' : World} {a : Addr} (h : w'.heap[a.block]? = w.heap[a.block]?) : w'.cell? a = w.cell? a := by simp [World.cell?, h]

theorem Rep.ev {E E' : Env} {w w' : World} (h : Ev E w E' w') {v : Value} {d : D} (r : Rep E w v d) : Rep E' w' v d := by
  induction r with
  | any v => exact .any v
  | int k n => exact .int k n
  | bool b => exact .bool b
  | flt k b x e => exact .flt k b x e
  | str s => exact .str s
  | agg vs ds hl _ ih => exact .agg vs ds hl ih
  | tup vs ds hl _ ih => exact .tup vs ds hl ih
  | slc a len cap es ds b off f h1 h2 h3 h4 h5 _ hfr ih =>
    refine .slc a len cap es ds b off f h1 h2 h3 (fun hn => ⟨(h4 hn).1, h.S b (h4 hn).2⟩) (fun i d hd => ?_) ih hfr
    have hn : ds ≠ [] := by rintro rfl; simp at hd
    rw [cell_of_heap (w := w) (h.heap b (.inl (h4 hn).2))]; exact h5 i d hd
  | emp a => exact .emp a
  | sptr b off ds f h4 h5 _ hfr ih =>
    refine .sptr b off ds f (fun hn => h.S b (h4 hn)) (fun i d hd => ?_) ih hfr
    have hn : ds ≠ [] := by rintro rfl; simp at hd
    rw [cell_of_heap (w := w) (h.heap b (.inl (h4 hn)))]; exact h5 i d hd
  | ptr v id g off h1 h2 h3 =>
    refine .ptr v id g off (Nat.lt_of_lt_of_le h1 h.n) (fun g0 hg => ?_) (fun hg => ?_)
    · obtain ⟨g1, e1, l1, _⟩ := h.live id h1 g0 hg
      exact Nat.le_trans (h2 g1 e1) l1
    · obtain ⟨g1, e1, l1, e⟩ := h.live id h1 g hg
      have := h2 g1 e1
      have e2 : g1 = g := by omega
      subst e2
      rw [e rfl]; exact h3 e1
  | ms v id g off es len h1 h2 h3 =>
    refine .ms v id g off es len (Nat.lt_of_lt_of_le h1 h.n) (fun g0 hg => ?_) (fun hg => ?_)
    · obtain ⟨g1, e1, l1, _⟩ := h.live id h1 g0 hg
      exact Nat.le_trans (h2 g1 e1) l1
    · obtain ⟨g1, e1, l1, e⟩ := h.live id h1 g hg
      have := h2 g1 e1
      have e2 : g1 = g := by omega
      subst e2
      rw [e rfl]; exact h3 e1
  | row v id g es len h1 h2 h3 =>
    refine .row v id g es len (Nat.lt_of_lt_of_le h1 h.n) (fun g0 hg => ?_) (fun hg => ?_)
    · obtain ⟨g1, e1, l1, _⟩ := h.live id h1 g0 hg
      exact Nat.le_trans (h2 g1 e1) l1
    · obtain ⟨g1, e1, l1, e⟩ := h.live id h1 g hg
      have := h2 g1 e1
      have e2 : g1 = g := by omega
      subst e2
      rw [e rfl]; exact h3 e1
  | fn f vs ds hl _ ih => exact .fn f vs ds hl ih
  | nilIface => exact .nilIface
  | iface t v d _ ih => exact .iface t v d ih

/-- What names no variable of the walk's own reads the same in every larger stable part. -/
theorem Rep.free {E E' : Env} {w w' : World} (hS : ∀ b, E.S b → E'.S b) (hw : ∀ b, E.S b → w'.heap[b]? = w.heap[b]?) {v : Value} {d : D} (r : Rep E w v d) (hf : d.free = true) : Rep E' w' v d := by
  induction r with
  | any v => exact .any v
  | int k n => exact .int k n
  | bool b => exact .bool b
  | flt k b x e => exact .flt k b x e
  | str s => exact .str s
  | agg vs ds hl _ ih => exact .agg vs ds hl fun i v d h1 h2 => ih i v d h1 h2 (D.freeAll_at (by simpa [D.free] using hf) h2)
  | tup vs ds hl _ ih => exact .tup vs ds hl fun i v d h1 h2 => ih i v d h1 h2 (D.freeAll_at (by simpa [D.free] using hf) h2)
  | slc a len cap es ds b off f h1 h2 h3 h4 h5 _ hfr ih =>
    refine .slc a len cap es ds b off f h1 h2 h3 (fun hn => ⟨(h4 hn).1, hS b (h4 hn).2⟩) (fun i d hd => ?_) (fun i d hd => ih i d hd (D.freeAll_at hfr hd)) hfr
    have hn : ds ≠ [] := by rintro rfl; simp at hd
    rw [cell_of_heap (w := w) (hw b (h4 hn).2)]; exact h5 i d hd
  | emp a => exact .emp a
  | sptr b off ds f h4 h5 _ hfr ih =>
    refine .sptr b off ds f (fun hn => hS b (h4 hn)) (fun i d hd => ?_) (fun i d hd => ih i d hd (D.freeAll_at hfr hd)) hfr
    have hn : ds ≠ [] := by rintro rfl; simp at hd
    rw [cell_of_heap (w := w) (hw b (h4 hn))]; exact h5 i d hd
  | ptr => simp [D.free] at hf
  | ms => simp [D.free] at hf
  | row => simp [D.free] at hf
  | fn f vs ds hl _ ih => exact .fn f vs ds hl fun i v d h1 h2 => ih i v d h1 h2 (D.freeAll_at (by simpa [D.free] using hf) h2)
  | nilIface => exact .nilIface
  | iface t v d _ ih => exact .iface t v d (ih (by simpa [D.free] using hf))

theorem Rep.flat {E E' : Env} {w w' : World} {v : Value} {d : D} (r : Rep E w v d) (hf : d.flat = true) : Rep E' w' v d := by
  induction r with
  | any v => exact .any v
  | int k n => exact .int k n
  | bool b => exact .bool b
  | flt k b x e => exact .flt k b x e
  | str s => exact .str s
  | agg vs ds hl _ ih => exact .agg vs ds hl fun i v d h1 h2 => ih i v d h1 h2 (D.flatAll_at (by simpa [D.flat] using hf) h2)
  | tup vs ds hl _ ih => exact .tup vs ds hl fun i v d h1 h2 => ih i v d h1 h2 (D.flatAll_at (by simpa [D.flat] using hf) h2)
  | slc a len cap es ds b off f h1 h2 h3 h4 h5 _ hfr ih =>
    have hn : ds = [] := by simpa [D.flat] using hf
    subst hn
    exact .slc a len cap es [] b off f h1 h2 h3 (fun h => absurd rfl h) (by simp) (by simp) rfl
  | emp a => exact .emp a
  | sptr => simp [D.flat] at hf
  | ptr => simp [D.flat] at hf
  | ms => simp [D.flat] at hf
  | row => simp [D.flat] at hf
  | fn f vs ds hl _ ih => exact .fn f vs ds hl fun i v d h1 h2 => ih i v d h1 h2 (D.flatAll_at (by simpa [D.flat] using hf) h2)
  | nilIface => exact .nilIface
  | iface t v d _ ih => exact .iface t v d (ih (by simpa [D.flat] using hf))

/-- A variable of the walk's own: a row that may be appended to (es > 0), or any other variable (es = 0). -/
structure Box where
  es : Nat
  cells : List D
abbrev Loc := List (Option Box)
def curOf (L : Loc) (id : Nat) : Option Nat := (L[id]?.join).map (·.cells.length)

def BoxSim (E : Env) (w : World) (id : Nat) (B : Box) : Prop :=
  (E.β id = none ∧ B.cells = [] ∧ 0 < B.es) ∨
  ∃ b cap cur t, E.β id = some (b, cap) ∧ ¬ E.S b ∧ ¬ E.F b ∧ w.heap[b]? = some (.cells cur t (0, 0)) ∧ B.cells.length ≤ cur.size ∧
    (0 < B.es → (∃ m, B.cells.length = m * B.es ∧ m ≤ cap) ∧ cap * B.es ≤ cur.size ∧ cap ≤ maxLen) ∧
    ∀ (i : Nat) v d, cur[i]? = some v → B.cells[i]? = some d → Rep E w v d

structure MemSim (E : Env) (L : Loc) (w : World) : Prop where
  n : E.n = L.length
  c : ∀ id, E.c id = curOf L id
  box : ∀ id B, L[id]? = some (some B) → BoxSim E w id B
  sep : ∀ i j Bi Bj b cb cb', i ≠ j → L[i]? = some (some Bi) → L[j]? = some (some Bj) → E.β i = some (b, cb) → E.β j = some (b, cb') → False
  ltS : ∀ b, E.S b → b < w.heap.size
  ltF : ∀ b, E.F b → b < w.heap.size

theorem Ev.sameHeap (E : Env) {w w' : World} (h : w'.heap = w.heap) (ho : w'.os = w.os) (ht : w'.tape = w.tape) (hp : w'.output = w.output) : Ev E w E w' :=
  ⟨ho, ht, hp, by rw [h]; exact Nat.le_refl _, rfl, fun _ h => h, fun _ _ => by rw [h], fun _ h => .inl h, fun id _ cap hi hc hβ => .inr ⟨id, cap, hi, hc, hβ⟩, Nat.le_refl _,
    fun _ _ g' h => ⟨g', h, Nat.le_refl _, fun _ => rfl⟩⟩

theorem MemSim.sameHeap {E : Env} {L : Loc} {w w' : World} (m : MemSim E L w) (h : w'.heap = w.heap) (ho : w'.os = w.os) (ht : w'.tape = w.tape) (hp : w'.output = w.output) : MemSim E L w' := by
  refine ⟨m.n, m.c, fun id B hB => ?_, m.sep, by rw [h]; exact m.ltS, by rw [h]; exact m.ltF⟩
  rcases m.box id B hB with h1 | ⟨b, cap, cur, t, h1, h2, h3, h4, h5, h6, h7⟩
  · exact .inl h1
  · exact .inr ⟨b, cap, cur, t, h1, h2, h3, by rw [h]; exact h4, h5, h6, fun i v d g1 g2 => (h7 i v d g1 g2).ev (Ev.sameHeap E h ho ht hp)⟩

/-- The state of a walk: how many temporaries, what they hold, the variables of its own. -/
structure St where
  sz : Nat
  get : Nat → D
  loc : Loc

structure Sim (E : Env) (s : St) (a : Act) (w : World) : Prop where
  defers : a.defers = []
  size : a.tmps.size = s.sz
  reg : ∀ t, Rep E w (a.tmps.getD t undef) (s.get t)
  mem : MemSim E s.loc w

/-- One temporary more is known (told by Nat.beq: the walk asks this often). -/
def upd (g : Nat → D) (i : Nat) (d : D) : Nat → D := fun j => cond (Nat.beq j i) d (g j)
theorem upd_apply (g : Nat → D) (i : Nat) (d : D) (j : Nat) : upd g i d j = if j = i then d else g j := by
  unfold upd
  by_cases h : j = i
  · subst h; simp
  · rw [if_neg h]
    have : Nat.beq j i = false := by
      cases hb : Nat.beq j i with
      | false => rfl
      | true => exact absurd (Nat.eq_of_beq_eq_true hb) h
    rw [this]; rfl
theorem upd_self (g : Nat → D) (i : Nat) {d : D} (h : g i = d) : upd g i d = g := by
  funext j; rw [upd_apply]; split
  · rename_i e; subst e; exact h.symm
  · rfl

def St.put (s : St) (dst : Option Tmp) (d : D) : St :=
  match dst with
  | some i => { s with get := upd s.get i d }
  | none => s

@[simp] theorem St.put_sz (s : St) (o : Option Tmp) (d : D) : (s.put o d).sz = s.sz := by cases o <;> rfl
@[simp] theorem St.put_loc (s : St) (o : Option Tmp) (d : D) : (s.put o d).loc = s.loc := by cases o <;> rfl

theorem Sim.put {E E' : Env} {s : St} {a : Act} {w w' : World} (h : Sim E s a w) (he : Ev E w E' w') (hm : MemSim E' s.loc w') (o : Option Tmp) {v : Value} {d : D}
    (ho : ∀ i, o = some i → i < s.sz) (hr : Rep E' w' v d) : Sim E' (s.put o d) (a.put o v) w' := by
  cases o with
  | none => exact ⟨h.defers, h.size, fun t => (h.reg t).ev he, hm⟩
  | some i =>
    refine ⟨h.defers, by simpa [Act.put] using h.size, fun t => ?_, hm⟩
    have hi : i < a.tmps.size := by rw [h.size]; exact ho i rfl
    simp only [Act.put, St.put, upd_apply]
    by_cases e : t = i
    · subst e
      simp [hi]; exact hr
    · rw [if_neg e]
      have : (a.tmps.setIfInBounds i v).getD t undef = a.tmps.getD t undef := by
        simp [Array.getD_eq_getD_getElem?, Array.getElem?_setIfInBounds_ne (Ne.symm e)]
      rw [this]; exact (h.reg t).ev he

def ofV1 : Value → D
  | .int k n => .int k n
  | .bool b => .bool b
  | .float k b => .flt k (canon k b)
  | .string s => .str s
  | .slice _ 0 0 => .emp
  | .nilIface => .nilIface
  | _ => .any
def ofV : Value → D
  | .agg cs => .agg (cs.toList.map ofV1)
  | v => ofV1 v
theorem rep_ofV1 (E : Env) (w : World) (v : Value) : Rep E w v (ofV1 v) := by
  unfold ofV1
  split
  · exact .int _ _
  · exact .bool _
  · exact .flt _ _ _ rfl
  · exact .str _
  · exact .emp _
  · exact .nilIface
  · exact .any _
theorem rep_ofV (E : Env) (w : World) (v : Value) : Rep E w v (ofV v) := by
  unfold ofV
  split
  · rename_i cs
    refine .agg _ _ (by simp) fun i v d h1 h2 => ?_
    simp only [List.getElem?_map, Array.getElem?_toList, h1, Option.map_some, Option.some.injEq] at h2
    subst h2; exact rep_ofV1 E w v
  · exact rep_ofV1 E w _

def St.ev (s : St) : Operand → D
  | .tmp t => s.get t
  | .const v => ofV v
  | .global _ => .any
  | .func f => .fn f []
theorem rep_ev {E : Env} {s : St} {a : Act} {w : World} (h : ∀ t, Rep E w (a.tmps.getD t undef) (s.get t)) (x : Operand) : Rep E w (a.eval x) (s.ev x) := by
  cases x with
  | tmp t => exact h t
  | const v => exact rep_ofV E w v
  | global g => exact .any _
  | func f => exact .fn f #[] [] rfl (by simp)
end Go.Proofs.YtcgocdcbceeoiaaGreat
