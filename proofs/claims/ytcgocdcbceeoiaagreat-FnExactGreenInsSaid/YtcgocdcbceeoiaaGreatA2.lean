/-
  The walk's own weakest precondition over abstract states, its rules for the control forms, and what a call is to do.
-/
import Derived.Test.YtcgocdcbceeoiaaGreatA1
import Derived.Deep.LoopGhost
namespace Go.Proofs.YtcgocdcbceeoiaaGreat
open Go

/-- From every state of the machine that bears 's' the code comes to one that bears an abstract state of which Q holds. -/
def AW (P : Program) (c : Code) (Q : Exit → St → Prop) (s : St) : Prop :=
  ∀ E a w, Sim E s a w → c.wp P (fun e a' w' => ∃ s' E', Q e s' ∧ Sim E' s' a' w' ∧ Ev E w E' w') a w

section rules
variable {P : Program} {Q : Exit → St → Prop} {s : St}

theorem AW.mono {c : Code} {Q' : Exit → St → Prop} (h : AW P c Q s) (hq : ∀ e s, Q e s → Q' e s) : AW P c Q' s :=
  fun E a w hs => wp_mono (h E a w hs) fun _ _ _ ⟨s', E', q, r⟩ => ⟨s', E', hq _ _ q, r⟩

theorem AW_skip (h : Q .normal s) : AW P .skip Q s := fun E _ w hs => wp_skip ⟨s, E, h, hs, Ev.refl E w⟩
theorem AW_label {l : Nat} (h : Q .normal s) : AW P (.label l) Q s := fun E _ w hs => wp_label ⟨s, E, h, hs, Ev.refl E w⟩
theorem AW_exit {id : Nat} (h : Q (.exit id) s) : AW P (.exit id) Q s := fun E _ w hs => wp_exit ⟨s, E, h, hs, Ev.refl E w⟩
theorem AW_ret (h : Q .ret s) : AW P .ret Q s := fun E _ w hs => wp_ret ⟨s, E, h, hs, Ev.refl E w⟩

/-- What follows is asked at the normal end, Q at every other. -/
def thenQ (K : St → Prop) (Q : Exit → St → Prop) : Exit → St → Prop
  | .normal, s => K s
  | e, s => Q e s

theorem AW_seq {x y : Code} (h : AW P x (thenQ (AW P y Q) Q) s) : AW P (.seq x y) Q s := by
  intro E a w hs
  refine wp_seq (wp_mono (h E a w hs) fun e a1 w1 ⟨s1, E1, q, hs1, ev1⟩ => ?_)
  cases e with
  | normal => exact wp_mono (q E1 a1 w1 hs1) fun e2 a2 w2 ⟨s2, E2, q2, hs2, ev2⟩ => ⟨s2, E2, q2, hs2, ev1.trans ev2⟩
  | exit _ => exact ⟨s1, E1, q, hs1, ev1⟩
  | goto _ => exact ⟨s1, E1, q, hs1, ev1⟩
  | ret => exact ⟨s1, E1, q, hs1, ev1⟩
  | panic _ => exact ⟨s1, E1, q, hs1, ev1⟩
  | outgrown => exact ⟨s1, E1, q, hs1, ev1⟩

theorem Rep.bool_inv {E : Env} {w : World} {v : Value} {b : Bool} (h : Rep E w v (.bool b)) : v = .bool b := by cases h; rfl
theorem Rep.int_inv {E : Env} {w : World} {v : Value} {k : IntKind} {n : Int} (h : Rep E w v (.int k n)) : v = .int k n := by cases h; rfl
theorem Rep.str_inv {E : Env} {w : World} {v : Value} {b : ByteArray} (h : Rep E w v (.str b)) : v = .string b := by cases h; rfl

theorem AW_cond {c : Operand} {x y : Code} {b : Bool} (hc : s.ev c = .bool b) (ht : b = true → AW P x Q s) (hf : b = false → AW P y Q s) : AW P (.cond c x y) Q s := by
  intro E a w hs
  have hv : a.eval c = .bool b := Rep.bool_inv (E := E) (w := w) (hc ▸ rep_ev hs.reg c)
  exact wp_cond_split hv (fun e => ht e E a w hs) (fun e => hf e E a w hs)
theorem AW_cond_t {c : Operand} {x y : Code} (hc : s.ev c = .bool true) (h : AW P x Q s) : AW P (.cond c x y) Q s := AW_cond hc (fun _ => h) (fun e => by simp at e)
theorem AW_cond_f {c : Operand} {x y : Code} (hc : s.ev c = .bool false) (h : AW P y Q s) : AW P (.cond c x y) Q s := AW_cond hc (fun e => by simp at e) (fun _ => h)

def blockQ (id : Nat) (Q : Exit → St → Prop) : Exit → St → Prop
  | .exit id', s => if id' = id then Q .normal s else Q (.exit id') s
  | e, s => Q e s
theorem AW_block {id : Nat} {c : Code} (h : AW P c (blockQ id Q) s) : AW P (.block id c) Q s := by
  intro E a w hs
  refine wp_block (wp_mono (h E a w hs) fun e a1 w1 ⟨s1, E1, q, hs1, ev1⟩ => ?_)
  cases e with
  | exit id' =>
    simp only [blockQ, Exit.inBlock] at q ⊢
    split at q
    · rw [if_pos ‹_›]; exact ⟨s1, E1, q, hs1, ev1⟩
    · rw [if_neg ‹_›]; exact ⟨s1, E1, q, hs1, ev1⟩
  | normal => exact ⟨s1, E1, q, hs1, ev1⟩
  | goto _ => exact ⟨s1, E1, q, hs1, ev1⟩
  | ret => exact ⟨s1, E1, q, hs1, ev1⟩
  | panic _ => exact ⟨s1, E1, q, hs1, ev1⟩
  | outgrown => exact ⟨s1, E1, q, hs1, ev1⟩

/-- A state may be told more loosely: whatever bears s bears s' too, under some environment that goes on from any from which the first one did. -/
def Loosens (s s' : St) : Prop :=
  ∀ E a w, Sim E s a w → ∃ E', Sim E' s' a w ∧ ∀ E0 w0, E0.n ≤ E'.n → Ev E0 w0 E w → Ev E0 w0 E' w

theorem Loosens.refl (s : St) : Loosens s s := fun E _ _ h => ⟨E, h, fun _ _ _ e => e⟩

/-- A loop: the states that may stand at its head are a family f; every round lowers a measure. -/
theorem AW_loop {c : Code} {α : Type} (f : α → St) (I : α → Prop) (μ : α → Nat) (k : Nat) (hk : ∀ x, (f x).loc.length = k) (hs : s.loc.length ≤ k) (x0 : α) (h0 : I x0) (hl : Loosens s (f x0))
    (round : ∀ x, I x → AW P c (thenQ (fun s' => ∃ y, I y ∧ μ y < μ x ∧ Loosens s' (f y)) Q) (f x)) : AW P (.loop c) Q s := by
  intro E a w hS
  obtain ⟨E0, hS0, hEv0⟩ := hl E a w hS
  have hn0 : E0.n = k := by rw [hS0.mem.n, hk]
  have hEn : E.n ≤ k := by rw [hS.mem.n]; exact hs
  have ev0 := hEv0 E w (by omega) (Ev.refl E w)
  refine wp_loop_ghost (fun n a' w' => ∃ x E', μ x = n ∧ I x ∧ Sim E' (f x) a' w' ∧ Ev E w E' w') (μ x0) ⟨x0, E0, rfl, h0, hS0, ev0⟩ ?_
  rintro n a1 w1 ⟨x, E1, rfl, hI, hS1, ev1⟩
  refine wp_mono (round x hI E1 a1 w1 hS1) fun e a2 w2 ⟨s2, E2, q, hS2, ev2⟩ => ?_
  cases e with
  | normal =>
    obtain ⟨y, hy, hlt, hl2⟩ := q
    obtain ⟨E3, hS3, hev3⟩ := hl2 E2 a2 w2 hS2
    have hn3 : E3.n = k := by rw [hS3.mem.n, hk]
    exact ⟨μ y, hlt, y, E3, rfl, hy, hS3, hev3 E w (by omega) (ev1.trans ev2)⟩
  | exit _ => exact ⟨s2, E2, q, hS2, ev1.trans ev2⟩
  | goto _ => exact ⟨s2, E2, q, hS2, ev1.trans ev2⟩
  | ret => exact ⟨s2, E2, q, hS2, ev1.trans ev2⟩
  | panic _ => exact ⟨s2, E2, q, hS2, ev1.trans ev2⟩
  | outgrown => exact ⟨s2, E2, q, hS2, ev1.trans ev2⟩

theorem AW_loosen {c : Code} {s' : St} (hl : Loosens s s') (hle : s.loc.length ≤ s'.loc.length) (h : AW P c Q s') : AW P c Q s := by
  intro E a w hs
  obtain ⟨E1, hS1, hev⟩ := hl E a w hs
  have ev1 := hev E w (by rw [hs.mem.n, hS1.mem.n]; exact hle) (Ev.refl E w)
  exact wp_mono (h E1 a w hS1) fun e a' w' ⟨s2, E2, q, hS2, ev2⟩ => ⟨s2, E2, q, hS2, ev1.trans ev2⟩
end rules

/-! Calls -/
def entrySt (n : Nat) (ds : List D) (L : Loc) : St := { sz := n, get := fun t => ds.getD t .any, loc := L }

/-- The function is one with a body of Go's. -/
def PlainFn (P : Program) (f : FuncId) : Prop := ∃ fn, P.funcs[f]? = some fn ∧ (fn.name == "runtime.NumGoroutine") = false ∧ fn.body.isNone = false

/-- What a call does, told in data. -/
def SCall (P : Program) (f : FuncId) (L : Loc) (ds : List D) (R : Loc → D → Prop) : Prop :=
  PlainFn P f ∧ ∀ E w (vs : Array Value), MemSim E L w → vs.size = ds.length → (∀ (i : Nat) v d, vs[i]? = some v → ds[i]? = some d → Rep E w v d) →
    Calls P f vs w fun e w' => ∃ v d L' E', e = .returned v ∧ R L' d ∧ Ev E w E' w' ∧ MemSim E' L' w' ∧ Rep E' w' v d

/-! Types, as far as the walk asks. -/
def isAggD : TypeDesc → Bool
  | .struct _ | .array _ _ => true
  | _ => false
/-- A struct or an array of n cells. -/
def TyAgg (P : Program) (t : TypeId) (n : Nat) : Prop := ∃ d i, P.underlying t = some d ∧ isAggD d = true ∧ P.info? t = some i ∧ i.size = n
/-- A type of one cell. -/
def TyOne (P : Program) (t : TypeId) : Prop := ∃ d i, P.underlying t = some d ∧ isAggD d = false ∧ P.info? t = some i ∧ i.size = 1
def TyN (P : Program) (t : TypeId) (n : Nat) : Prop := ∃ i, P.info? t = some i ∧ i.size = n
theorem TyAgg.n {P : Program} {t n : Nat} (h : TyAgg P t n) : TyN P t n := let ⟨_, i, _, _, h3, h4⟩ := h; ⟨i, h3, h4⟩
theorem TyOne.n {P : Program} {t : Nat} (h : TyOne P t) : TyN P t 1 := let ⟨_, i, _, _, h3, h4⟩ := h; ⟨i, h3, h4⟩
/-- A type: its cells, whether it is a struct or an array. -/
class TElm (P : Program) (e : TypeId) (n : outParam Nat) (ag : outParam Bool) : Prop where
  out : ∃ d inf, P.underlying e = some d ∧ isAggD d = ag ∧ P.info? e = some inf ∧ inf.size = n ∧ 0 < n
theorem TElm.n {P : Program} {e n : Nat} {ag : Bool} (h : TElm P e n ag) : TyN P e n := let ⟨_, i, _, _, h3, h4, _⟩ := h.out; ⟨i, h3, h4⟩
theorem TElm.agg {P : Program} {e n : Nat} (h : TElm P e n true) : TyAgg P e n := let ⟨d, i, h1, h2, h3, h4, _⟩ := h.out; ⟨d, i, h1, h2, h3, h4⟩
/-- Field i of a struct type: its offset, its cells, whether it is a struct or an array itself. -/
class TFld (P : Program) (t : TypeId) (i : Nat) (off n : outParam Nat) (ag : outParam Bool) : Prop where
  out : ∃ fs f d inf, P.underlying t = some (.struct fs) ∧ fs[i]? = some f ∧ f.offset = off ∧ P.underlying f.type = some d ∧ isAggD d = ag ∧ P.info? f.type = some inf ∧ inf.size = n ∧ 0 < n
class TSlc (P : Program) (t : TypeId) (n : outParam Nat) (ag : outParam Bool) : Prop where
  out : ∃ e, P.underlying t = some (.slice e) ∧ TElm P e n ag
class TArr (P : Program) (t : TypeId) (len n : outParam Nat) (ag : outParam Bool) : Prop where
  out : ∃ e, P.underlying t = some (.array len e) ∧ TElm P e n ag
class TyBool (P : Program) (t : TypeId) : Prop where
  out : P.underlying t = some .bool
class TString (P : Program) (t : TypeId) : Prop where
  out : P.underlying t = some .string
class TIntK (P : Program) (t : TypeId) (k : outParam IntKind) : Prop where
  out : P.underlying t = some (.int k)
class TFloatK (P : Program) (t : TypeId) (k : outParam FloatKind) : Prop where
  out : P.underlying t = some (.float k)
/-- The zero value of a type, cell by cell. -/
class TZero (P : Program) (t : TypeId) (cs : outParam (List D)) : Prop where
  out : ∃ i z, P.info? t = some i ∧ i.zero = some z ∧ z.cells.toList.map ofV1 = cs
/-- The bytes of a type. -/
class TBytes (P : Program) (t : TypeId) (n : outParam Nat) : Prop where
  out : ∃ i, P.info? t = some i ∧ i.bytes = n

def tElmB (P : Program) (e n : Nat) (ag : Bool) : Bool := match P.underlying e, P.info? e with
  | some d, some i => isAggD d == ag && i.size == n && decide (0 < n)
  | _, _ => false
theorem tElm_of {P : Program} {e n : Nat} {ag : Bool} (h : tElmB P e n ag = true) : TElm P e n ag := by
  unfold tElmB at h
  split at h
  · rename_i d i h1 h2
    simp only [Bool.and_eq_true, beq_iff_eq, decide_eq_true_eq] at h
    exact ⟨d, i, h1, h.1.1, h2, h.1.2, h.2⟩
  · simp at h
def tFldB (P : Program) (t i off n : Nat) (ag : Bool) : Bool := match P.underlying t with
  | some (.struct fs) => match fs[i]? with
    | some f => f.offset == off && tElmB P f.type n ag
    | none => false
  | _ => false
theorem tFld_of {P : Program} {t i off n : Nat} {ag : Bool} (h : tFldB P t i off n ag = true) : TFld P t i off n ag := by
  unfold tFldB at h
  split at h
  · rename_i fs h1
    split at h
    · rename_i f h2
      simp only [Bool.and_eq_true, beq_iff_eq] at h
      obtain ⟨d, inf, k⟩ := (tElm_of h.2).out
      exact ⟨fs, f, d, inf, h1, h2, h.1, k⟩
    · simp at h
  · simp at h
def tSlcB (P : Program) (t n : Nat) (ag : Bool) : Bool := match P.underlying t with
  | some (.slice e) => tElmB P e n ag
  | _ => false
theorem tSlc_of {P : Program} {t n : Nat} {ag : Bool} (h : tSlcB P t n ag = true) : TSlc P t n ag := by
  unfold tSlcB at h
  split at h
  · exact ⟨_, ‹_›, tElm_of h⟩
  · simp at h
def tArrB (P : Program) (t len n : Nat) (ag : Bool) : Bool := match P.underlying t with
  | some (.array l e) => l == len && tElmB P e n ag
  | _ => false
theorem tArr_of {P : Program} {t len n : Nat} {ag : Bool} (h : tArrB P t len n ag = true) : TArr P t len n ag := by
  unfold tArrB at h
  split at h
  · rename_i l e h1
    simp only [Bool.and_eq_true, beq_iff_eq] at h
    obtain ⟨rfl, h2⟩ := h
    exact ⟨e, h1, tElm_of h2⟩
  · simp at h
def tZeroB (P : Program) (t : Nat) : Option (List D) := match P.info? t with
  | some i => match i.zero with
    | some z => some (z.cells.toList.map ofV1)
    | none => none
  | none => none
theorem tZero_of {P : Program} {t : Nat} {cs : List D} (h : tZeroB P t = some cs) : TZero P t cs := by
  unfold tZeroB at h
  split at h
  · rename_i i h1
    split at h
    · rename_i z h2
      simp only [Option.some.injEq] at h
      exact ⟨i, z, h1, h2, h⟩
    · simp at h
  · simp at h
theorem tBytes_of {P : Program} {t n : Nat} (h : (P.info? t).map (·.bytes) = some n) : TBytes P t n := by
  cases hi : P.info? t with
  | none => rw [hi] at h; simp at h
  | some i => rw [hi] at h; simp at h; exact ⟨i, hi, h⟩

theorem run_sizeOf {P : Program} {t n : Nat} (h : TyN P t n) (w : World) : (sizeOf t).run P w = .ok n w := by
  obtain ⟨i, h3, h4⟩ := h
  simp [sizeOf, typeInfo, h3, h4]
theorem run_isAgg_agg {P : Program} {t n : Nat} (h : TyAgg P t n) (w : World) : (isAgg t).run P w = .ok true w := by
  obtain ⟨d, i, h1, h2, h3, h4⟩ := h
  simp only [isAgg, Sem.run_bind, run_underlying h1, Result.andThen_ok]
  cases d <;> simp [isAggD] at h2 <;> rfl
theorem run_isAgg_one {P : Program} {t : Nat} (h : TyOne P t) (w : World) : (isAgg t).run P w = .ok false w := by
  obtain ⟨d, i, h1, h2, h3, h4⟩ := h
  simp only [isAgg, Sem.run_bind, run_underlying h1, Result.andThen_ok]
  cases d <;> simp [isAggD] at h2 <;> rfl

/-- The cells from an address on. -/
def rdCells (L : Loc) : D → Option (List D)
  | .ptr id g off => match L[id]? with
    | some (some B) => if B.cells.length = g then some (B.cells.drop off) else none
    | _ => none
  | .sptr ds => some ds
  | _ => none

theorem curOf_some {L : Loc} {id : Nat} {B : Box} (h : L[id]? = some (some B)) : curOf L id = some B.cells.length := by simp [curOf, h]

theorem rd_ptr {E : Env} {L : Loc} {w : World} {v : Value} {d : D} {cs : List D} (hm : MemSim E L w) (hr : Rep E w v d) (hc : rdCells L d = some cs) :
    ∃ (b off : Nat) (f : Nat → Value), v = .pointer (some ⟨b, off, none⟩) ∧ ∀ (i : Nat) d, cs[i]? = some d → w.cell? ⟨b, off + i, none⟩ = some (f i) ∧ Rep E w (f i) d := by
  cases hr with
  | ptr _ id g off h1 h2 h3 =>
    simp only [rdCells] at hc
    split at hc
    · rename_i B hB
      split at hc
      · rename_i hg
        simp only [Option.some.injEq] at hc
        subst hc
        have hcur := hm.c id
        rw [curOf_some hB, hg] at hcur
        obtain ⟨b, cap, hβ, rfl⟩ := h3 hcur
        rcases hm.box id B hB with ⟨h4, _⟩ | ⟨b', cap', cur, t, h4, _, _, h5, h6, _, h7⟩
        · rw [hβ] at h4; simp at h4
        · rw [hβ] at h4
          simp only [Option.some.injEq, Prod.mk.injEq] at h4
          obtain ⟨rfl, rfl⟩ := h4
          refine ⟨b, off, fun i => cur.getD (off + i) undef, rfl, fun i d hd => ?_⟩
          rw [List.getElem?_drop] at hd
          have hlt : off + i < cur.size := Nat.lt_of_lt_of_le (List.getElem?_eq_some_iff.1 hd).1 h6
          have hcell : cur[off + i]? = some (cur.getD (off + i) undef) := by simp [hlt]
          exact ⟨by rw [cell_of_row w b (off + i) cur t (0, 0) h5]; exact hcell, h7 _ _ _ hcell hd⟩
      · simp at hc
    · simp at hc
  | sptr b off ds f h4 h5 h6 _ =>
    simp only [rdCells, Option.some.injEq] at hc
    subst hc
    exact ⟨b, off, f, rfl, fun i d hd => ⟨h5 i d hd, h6 i d hd⟩⟩
  | _ => simp [rdCells] at hc

theorem addr_add (b o n : Nat) : Addr.add ⟨b, o, none⟩ n = ⟨b, o + n, none⟩ := Addr.add_lit b o n

/-- A load, told in cells. -/
theorem run_load_agg {P : Program} {E : Env} {w : World} {t n : Nat} (ht : TyAgg P t n) {b off : Nat} {f : Nat → Value} {cs : List D} (hn : n ≤ cs.length)
    (h : ∀ (i : Nat) d, cs[i]? = some d → w.cell? ⟨b, off + i, none⟩ = some (f i) ∧ Rep E w (f i) d) :
    ∃ v, (loadVar t ⟨b, off, none⟩).run P w = .ok v w ∧ Rep E w v (.agg (cs.take n)) := by
  refine ⟨.agg ((List.range n).map f).toArray, ?_, ?_⟩
  · simp only [loadVar, Sem.run_bind, run_isAgg_agg ht, Result.andThen_ok, if_true, run_sizeOf ht.n]
    rw [run_loadCells w ⟨b, off, none⟩ n f (fun j hj => by
      rw [addr_add]
      exact (h j cs[j] (by simp)).1)]
    rfl
  · refine .agg _ _ (by simp; omega) fun i v d h1 h2 => ?_
    rw [List.getElem?_take] at h2
    split at h2
    · rename_i hi
      have := (h i d h2).2
      simp [hi] at h1
      subst h1; exact this
    · simp at h2
theorem run_load_one {P : Program} {E : Env} {w : World} {t : Nat} (ht : TyOne P t) {b off : Nat} {f : Nat → Value} {cs : List D} {c : D} (hn : cs[0]? = some c)
    (h : ∀ (i : Nat) d, cs[i]? = some d → w.cell? ⟨b, off + i, none⟩ = some (f i) ∧ Rep E w (f i) d) :
    (loadVar t ⟨b, off, none⟩).run P w = .ok (f 0) w ∧ Rep E w (f 0) c := by
  obtain ⟨h1, h2⟩ := h 0 c hn
  refine ⟨?_, h2⟩
  simp only [Nat.add_zero] at h1
  simp [loadVar, run_isAgg_one ht, h1]

/-- What stands in a variable that holds one result. -/
inductive ResV (P : Program) (s : St) : ResultVar → D → Prop
  | tmp (t : Tmp) : ResV P s (.tmp t) (s.get t)
  | agg (a : Tmp) (t n : Nat) (cs : List D) : TyAgg P t n → rdCells s.loc (s.get a) = some cs → n ≤ cs.length → ResV P s (.cell a t) (.agg (cs.take n))
  | one (a : Tmp) (t : Nat) (cs : List D) (c : D) : TyOne P t → rdCells s.loc (s.get a) = some cs → cs[0]? = some c → ResV P s (.cell a t) c
/-- What a function hands back. -/
inductive ResD (P : Program) (s : St) : List ResultVar → D → Prop
  | none : ResD P s [] (.tup [])
  | one (r : ResultVar) (d : D) : ResV P s r d → ResD P s [r] d
  | two (r1 r2 : ResultVar) (d1 d2 : D) : ResV P s r1 d1 → ResV P s r2 d2 → ResD P s [r1, r2] (.tup [d1, d2])
  | three (r1 r2 r3 : ResultVar) (d1 d2 d3 : D) : ResV P s r1 d1 → ResV P s r2 d2 → ResV P s r3 d3 → ResD P s [r1, r2, r3] (.tup [d1, d2, d3])
  | four (r1 r2 r3 r4 : ResultVar) (d1 d2 d3 d4 : D) : ResV P s r1 d1 → ResV P s r2 d2 → ResV P s r3 d3 → ResV P s r4 d4 → ResD P s [r1, r2, r3, r4] (.tup [d1, d2, d3, d4])

def resRun (tmps : Array Value) : ResultVar → Sem Value
  | .tmp t => pure (tmps.getD t undef)
  | .cell a t => do loadVar t (← asAddr (tmps.getD a undef))

theorem resV_run {P : Program} {E : Env} {s : St} {a : Act} {w : World} (hs : Sim E s a w) {r : ResultVar} {d : D} (h : ResV P s r d) :
    ∃ v, (resRun a.tmps r).run P w = .ok v w ∧ Rep E w v d := by
  cases h with
  | tmp t => exact ⟨_, rfl, hs.reg t⟩
  | agg p t n cs ht hc hn =>
    obtain ⟨b, off, f, hv, hf⟩ := rd_ptr hs.mem (hs.reg p) hc
    obtain ⟨v, h1, h2⟩ := run_load_agg ht hn hf
    exact ⟨v, by simp only [resRun, hv, asAddr, Sem.run_bind, Sem.run_pure, Result.andThen_ok, h1], h2⟩
  | one p t cs c ht hc hn =>
    obtain ⟨b, off, f, hv, hf⟩ := rd_ptr hs.mem (hs.reg p) hc
    obtain ⟨h1, h2⟩ := run_load_one ht hn hf
    exact ⟨_, by simp only [resRun, hv, asAddr, Sem.run_bind, Sem.run_pure, Result.andThen_ok, h1], h2⟩

theorem results_eq (P : Program) (fn : Func) (tmps : Array Value) (w : World) :
    (results fn tmps).run P w = ((fn.results.toList.mapM (resRun tmps)).run P w).andThen fun l w => .ok (if h : l.length = 1 then l[0] else .tuple l.toArray) w := by
  have e0 : results fn tmps = (do let vs ← fn.results.mapM (resRun tmps); pure (if h : vs.size = 1 then vs[0] else .tuple vs)) := by
    rfl
  have e : fn.results.mapM (m := Sem) (resRun tmps) = (List.toArray <$> fn.results.toList.mapM (resRun tmps)) := Array.mapM_eq_mapM_toList
  rw [e0, e]
  simp only [Sem.run_bind, Sem.run_map]
  cases (List.mapM (resRun tmps) fn.results.toList).run P w with
  | ok l w' => simp
  | halt h w' => rfl

theorem resD_run {P : Program} {E : Env} {s : St} {a : Act} {w : World} (hs : Sim E s a w) {fn : Func} {d : D} (h : ResD P s fn.results.toList d) :
    ∃ v, (results fn a.tmps).run P w = .ok v w ∧ Rep E w v d := by
  rw [results_eq]
  generalize fn.results.toList = l at h
  cases h with
  | none => exact ⟨.tuple #[], by simp, .tup _ _ rfl (by simp)⟩
  | one r d h1 =>
    obtain ⟨v, e1, r1⟩ := resV_run hs h1
    exact ⟨v, by simp [List.mapM_cons, e1], r1⟩
  | two r1 r2 d1 d2 h1 h2 =>
    obtain ⟨v1, e1, q1⟩ := resV_run hs h1
    obtain ⟨v2, e2, q2⟩ := resV_run hs h2
    refine ⟨.tuple #[v1, v2], by simp [List.mapM_cons, e1, e2], .tup _ _ rfl fun i v d g1 g2 => ?_⟩
    match i, g1, g2 with
    | 0, g1, g2 => simp at g1 g2; subst g1; subst g2; exact q1
    | 1, g1, g2 => simp at g1 g2; subst g1; subst g2; exact q2
  | three r1 r2 r3 d1 d2 d3 h1 h2 h3 =>
    obtain ⟨v1, e1, q1⟩ := resV_run hs h1
    obtain ⟨v2, e2, q2⟩ := resV_run hs h2
    obtain ⟨v3, e3, q3⟩ := resV_run hs h3
    refine ⟨.tuple #[v1, v2, v3], by simp [List.mapM_cons, e1, e2, e3], .tup _ _ rfl fun i v d g1 g2 => ?_⟩
    match i, g1, g2 with
    | 0, g1, g2 => simp at g1 g2; subst g1; subst g2; exact q1
    | 1, g1, g2 => simp at g1 g2; subst g1; subst g2; exact q2
    | 2, g1, g2 => simp at g1 g2; subst g1; subst g2; exact q3
  | four r1 r2 r3 r4 d1 d2 d3 d4 h1 h2 h3 h4 =>
    obtain ⟨v1, e1, q1⟩ := resV_run hs h1
    obtain ⟨v2, e2, q2⟩ := resV_run hs h2
    obtain ⟨v3, e3, q3⟩ := resV_run hs h3
    obtain ⟨v4, e4, q4⟩ := resV_run hs h4
    refine ⟨.tuple #[v1, v2, v3, v4], by simp [List.mapM_cons, e1, e2, e3, e4], .tup _ _ rfl fun i v d g1 g2 => ?_⟩
    match i, g1, g2 with
    | 0, g1, g2 => simp at g1 g2; subst g1; subst g2; exact q1
    | 1, g1, g2 => simp at g1 g2; subst g1; subst g2; exact q2
    | 2, g1, g2 => simp at g1 g2; subst g1; subst g2; exact q3
    | 3, g1, g2 => simp at g1 g2; subst g1; subst g2; exact q4

/-- What is asked at the end of a body. -/
def endQ (P : Program) (rs : List ResultVar) (R : Loc → D → Prop) : Exit → St → Prop
  | .normal, s | .ret, s => ∃ d, ResD P s rs d ∧ R s.loc d
  | _, _ => False

theorem SCall_of_AW {P : Program} {f : FuncId} {fn : Func} {c : Code} {L : Loc} {ds : List D} {R : Loc → D → Prop} (n : Nat) (rs : List ResultVar)
    (hf : P.funcs[f]? = some fn) (hname : (fn.name == "runtime.NumGoroutine") = false) (hb : fn.body = some c) (hn : fn.ntmps = n) (hrs : fn.results = rs.toArray) (hle : ds.length ≤ n)
    (h : AW P c (endQ P rs R) (entrySt n ds L)) : SCall P f L ds R := by
  refine ⟨⟨fn, hf, hname, by simp [hb]⟩, fun E w vs hm hsz hr => ?_⟩
  refine calls_of_wp hf hb ?_
  have hS : Sim E (entrySt n ds L) { tmps := vs ++ Array.replicate (fn.ntmps - vs.size) undef, defers := [] } w := by
    refine ⟨rfl, by simp [entrySt, hn, hsz]; omega, fun t => ?_, hm⟩
    simp only [entrySt]
    by_cases ht : t < vs.size
    · have h1 : vs[t]? = some vs[t] := by simp [ht]
      have h2 : ds[t]? = some (ds[t]'(by omega)) := by simp
      have : (vs ++ Array.replicate (fn.ntmps - vs.size) undef).getD t undef = vs[t] := by
        simp [Array.getD_eq_getD_getElem?, Array.getElem?_append_left ht, h1]
      rw [this]
      have : ds.getD t .any = ds[t]'(by omega) := by simp [List.getD, h2]
      rw [this]
      exact hr t _ _ h1 h2
    · have : ds.getD t .any = .any := by simp [List.getD, List.getElem?_eq_none (show ds.length ≤ t by omega)]
      rw [this]; exact .any _
  refine wp_mono (h E _ w hS) fun e a' w' ⟨s', E', q, hS', ev⟩ => ?_
  have key : (∃ d, ResD P s' rs d ∧ R s'.loc d) → a'.defers = [] ∧ ∃ v, (results fn a'.tmps).run P w' = .ok v w' ∧
      ∃ v' d L' E', Ending.returned v = .returned v' ∧ R L' d ∧ Ev E w E' w' ∧ MemSim E' L' w' ∧ Rep E' w' v' d := by
    rintro ⟨d, h1, h2⟩
    obtain ⟨v, h3, h4⟩ := resD_run (fn := fn) hS' (d := d) (by rw [hrs]; simpa using h1)
    exact ⟨hS'.defers, v, h3, v, d, s'.loc, E', rfl, h2, ev, hS'.mem, h4⟩
  cases e with
  | normal => exact key q
  | ret => exact key q
  | _ => exact q.elim

end Go.Proofs.YtcgocdcbceeoiaaGreat
