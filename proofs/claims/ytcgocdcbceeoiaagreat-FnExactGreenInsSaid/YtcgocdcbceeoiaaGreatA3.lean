/-
  Regions: one operation behind the other, and regions that draw their order: what the operations yield in the order of the text is what they yield in every order.
-/
import Derived.Test.YtcgocdcbceeoiaaGreatA2
namespace Go.Proofs.YtcgocdcbceeoiaaGreat
open Go

/-- An operation that leaves the walk's variables as they are, and yields d. -/
def QOp (P : Program) (o : Oper) (s : St) (d : D) : Prop :=
  ∀ E a w, a.defers = [] → a.tmps.size = s.sz → (∀ x ∈ o.op.operands, Rep E w (a.eval x) (s.ev x)) → MemSim E s.loc w →
    o.wp P a w (fun a' w' => ∃ v E', a' = a.put o.dst v ∧ Rep E' w' v d ∧ MemSim E' s.loc w' ∧ Ev E w E' w') (fun _ _ _ => False)

/-- An operation of any kind. -/
def SOp (P : Program) (o : Oper) (K : St → Prop) (s : St) : Prop :=
  ∀ E a w, Sim E s a w → o.wp P a w (fun a' w' => ∃ s' E', K s' ∧ Sim E' s' a' w' ∧ Ev E w E' w') (fun _ _ _ => False)

def SOps (P : Program) (ops : Array Oper) (l : List Oper) (K : St → Prop) (s : St) : Prop :=
  ∀ E a w, Sim E s a w → wpList P ops (fun e a' w' => ∃ s' E', e = .normal ∧ K s' ∧ Sim E' s' a' w' ∧ Ev E w E' w') l a w

def dstOk (o : Oper) (s : St) : Bool :=
  match o.dst with
  | some i => decide (i < s.sz)
  | none => true
theorem dstOk_spec {o : Oper} {s : St} (h : dstOk o s = true) : ∀ i, o.dst = some i → i < s.sz := by
  intro i hi
  simpa [dstOk, hi] using h

theorem wpMonoBoth {P : Program} {o : Oper} {a : Act} {w : World} {K K' : Act → World → Prop} {Q Q' : Exit → Act → World → Prop} (h : ∀ a w, K a w → K' a w) (hq : ∀ e a w, Q e a w → Q' e a w)
    (hh : o.wp P a w K Q) : o.wp P a w K' Q' := by
  unfold Oper.wp at *
  generalize (execOp a.eval o).run P w = r at *
  cases r with
  | ok n w' =>
    cases n <;> simp only [Oper.upon] at hh ⊢ <;>
      first
        | exact h _ _ hh
        | exact Calls.mono hh (fun e w'' he => by
            cases e with
            | returned v => exact h _ _ he
            | panicked c => exact hq _ _ _ he
            | outgrown => obtain ⟨a0, w0, h0⟩ := he; exact ⟨a0, w0, hq _ _ _ h0⟩)
        | exact Rows.mono hh (fun _ _ he => h _ _ he)
  | halt x w' => cases x <;> simp only [Oper.upon] at hh ⊢ <;> first | exact hq _ _ _ hh | exact hh

theorem SOp_of_QOp {P : Program} {o : Oper} {s : St} {d : D} {K : St → Prop} (hq : QOp P o s d) (hd : dstOk o s = true) (h : K (s.put o.dst d)) : SOp P o K s := by
  intro E a w hs
  refine wpMonoBoth (fun a' w' ⟨v, E', e, hr, hm, ev⟩ => ?_) (fun _ _ _ h => h) (hq E a w hs.defers hs.size (fun x _ => rep_ev hs.reg x) hs.mem)
  subst e
  exact ⟨_, E', h, hs.put ev hm o.dst (dstOk_spec hd) hr, ev⟩

section
variable {P : Program} {ops : Array Oper} {o : Oper} {l : List Oper} {K : St → Prop} {s : St}

theorem SOps_nil (h : K s) : SOps P ops [] K s := fun E _ w hs => wpList_nil ⟨s, E, rfl, h, hs, Ev.refl E w⟩

theorem SOps_want (hw : ∀ E a w, Sim E s a w → Region.wanted o (yielded ops a.tmps) = true) (h : SOp P o (SOps P ops l K) s) : SOps P ops (o :: l) K s := by
  intro E a w hs
  unfold wpList
  rw [if_pos (hw E a w hs)]
  refine .inl (wpMonoBoth (fun a' w' ⟨s1, E1, h1, hs1, ev1⟩ => ?_) (fun e a w h => h.elim) (h E a w hs))
  have := h1 E1 a' w' hs1
  revert this
  suffices H : ∀ (l : List Oper) (a : Act) (w1 : World),
      wpList P ops (fun e a'' w'' => ∃ s' E', e = .normal ∧ K s' ∧ Sim E' s' a'' w'' ∧ Ev E1 w' E' w'') l a w1 →
      wpList P ops (fun e a'' w'' => ∃ s' E', e = .normal ∧ K s' ∧ Sim E' s' a'' w'' ∧ Ev E w E' w'') l a w1 from H l a' w'
  intro l
  induction l with
  | nil => exact fun a w1 ⟨s2, E2, e, h2, hs2, ev2⟩ => ⟨s2, E2, e, h2, hs2, ev1.trans ev2⟩
  | cons o l ih =>
    intro a w1 hh
    unfold wpList at hh ⊢
    split
    · rw [if_pos ‹_›] at hh
      rcases hh with hh | ⟨h1, a0, w0, s2, E2, e2, _⟩
      · exact .inl (wpMonoBoth (fun a w h => ih a w h) (fun e a w ⟨s2, E2, e, h2, hs2, ev2⟩ => ⟨s2, E2, e, h2, hs2, ev1.trans ev2⟩) hh)
      · cases e2
    · rw [if_neg ‹_›] at hh
      exact ih _ _ hh

theorem SOps_skip (hw : ∀ E a w, Sim E s a w → Region.wanted o (yielded ops a.tmps) = false) (hd : dstOk o s = true) (h : SOps P ops l K (s.put o.dst (.tup []))) : SOps P ops (o :: l) K s := by
  intro E a w hs
  unfold wpList
  rw [if_neg (by rw [hw E a w hs]; simp)]
  exact h E _ w (hs.put (Ev.refl E w) hs.mem o.dst (dstOk_spec hd) (.tup #[] [] rfl (by simp)))

def gslot (ops : Array Oper) (j : Nat) : Option Tmp := (ops[j]?).bind (·.dst)

theorem yielded_of {E : Env} {a : Act} {w : World} (hs : ∀ t, Rep E w (a.tmps.getD t undef) (s.get t)) {j : Nat} {t : Tmp} {b : Bool} (hj : gslot ops j = some t) (hb : s.get t = .bool b) : yielded ops a.tmps j = some b := by
  have h1 : a.tmps.getD t undef = .bool b := Rep.bool_inv (E := E) (w := w) (hb ▸ hs t)
  have h2 : a.tmps[t]? = some (.bool b) := by
    rw [Array.getD_eq_getD_getElem?] at h1
    cases h : a.tmps[t]? with
    | none => rw [h] at h1; simp [undef] at h1
    | some x => rw [h] at h1; simp at h1; rw [h1]
  unfold gslot at hj
  simp [yielded, hj, h2]

/-- Is the operation carried out, as far as the state tells? -/
inductive Guard (ops : Array Oper) (s : St) (o : Oper) : Bool → Prop
  | free : o.guard = none → Guard ops s o true
  | asked (j : Nat) (b b' : Bool) (t : Tmp) (r : Bool) : o.guard = some (j, b) → gslot ops j = some t → s.get t = .bool b' → (b' == b) = r → Guard ops s o r
  | blank (j : Nat) (b : Bool) (t : Tmp) : o.guard = some (j, b) → gslot ops j = some t → s.get t = .tup [] → Guard ops s o false

theorem yielded_blank {E : Env} {a : Act} {w : World} (hs : ∀ t, Rep E w (a.tmps.getD t undef) (s.get t)) {j : Nat} {t : Tmp} (hj : gslot ops j = some t) (hb : s.get t = .tup []) : yielded ops a.tmps j = none := by
  have h0 : Rep E w (a.tmps.getD t undef) (.tup []) := hb ▸ hs t
  have h1 : ∃ vs, a.tmps.getD t undef = .tuple vs := by
    generalize a.tmps.getD t undef = v at h0
    cases h0 with
    | tup vs _ _ _ => exact ⟨vs, rfl⟩
  obtain ⟨vs, h1⟩ := h1
  simp only [gslot] at hj
  simp only [yielded, hj, Option.bind_some]
  cases h : a.tmps[t]? with
  | none => rfl
  | some x =>
    rw [Array.getD_eq_getD_getElem?, h] at h1
    simp at h1
    rw [h1]
theorem Guard.wanted {E : Env} {a : Act} {w : World} (hs : ∀ t, Rep E w (a.tmps.getD t undef) (s.get t)) {r : Bool} (g : Guard ops s o r) : Region.wanted o (yielded ops a.tmps) = r := by
  cases g with
  | free h => simp [Region.wanted, h]
  | asked j b b' t r h1 h2 h3 h4 =>
    simp only [Region.wanted, h1, yielded_of hs h2 h3]
    rw [← h4]
    cases b <;> cases b' <;> rfl
  | blank j b t h1 h2 h3 => simp only [Region.wanted, h1, yielded_blank hs h2 h3]; rfl

theorem SOps_q {d : D} (g : Guard ops s o true) (hq : QOp P o s d) (hd : dstOk o s = true) (h : SOps P ops l K (s.put o.dst d)) : SOps P ops (o :: l) K s :=
  SOps_want (fun _ _ _ hs => g.wanted hs.reg) (SOp_of_QOp hq hd h)
theorem SOps_m (g : Guard ops s o true) (h : SOp P o (SOps P ops l K) s) : SOps P ops (o :: l) K s := SOps_want (fun _ _ _ hs => g.wanted hs.reg) h
theorem SOps_f (g : Guard ops s o false) (hd : dstOk o s = true) (h : SOps P ops l K (s.put o.dst (.tup []))) : SOps P ops (o :: l) K s := SOps_skip (fun _ _ _ hs => g.wanted hs.reg) hd h

/-- A slot that holds a Bool is known by its value, case by case. -/
theorem SOps_split (t : Tmp) {b : Bool} (ht : s.get t = .bool b) (h1 : b = true → SOps P ops l K (s.put (some t) (.bool true))) (h0 : b = false → SOps P ops l K (s.put (some t) (.bool false))) : SOps P ops l K s := by
  have e : ∀ x, b = x → s.put (some t) (.bool x) = s := by
    rintro x rfl
    cases s
    simp only [St.put, upd_self _ _ ht]
  cases b
  · have := h0 rfl; rwa [e false rfl] at this
  · have := h1 rfl; rwa [e true rfl] at this
end

theorem AW_seq_region {P : Program} {id : Nat} {l : List Oper} {y : Code} {Q : Exit → St → Prop} {s : St} (h : SOps P l.toArray l (AW P y Q) s) : AW P (.seq (.region id l.toArray false) y) Q s := by
  refine AW_seq fun E a w hs => wp_region_lit ?_
  have := h E a w hs
  revert this
  suffices H : ∀ (l' : List Oper) (a : Act) (w1 : World),
      wpList P l.toArray (fun e a'' w'' => ∃ s' E', e = .normal ∧ AW P y Q s' ∧ Sim E' s' a'' w'' ∧ Ev E w E' w'') l' a w1 →
      wpList P l.toArray (fun e a'' w'' => ∃ s' E', thenQ (AW P y Q) Q e s' ∧ Sim E' s' a'' w'' ∧ Ev E w E' w'') l' a w1 from H l a w
  intro l'
  induction l' with
  | nil => exact fun a w1 ⟨s2, E2, e, h2, hs2, ev2⟩ => ⟨s2, E2, h2, hs2, ev2⟩
  | cons o l' ih =>
    intro a w1 hh
    unfold wpList at hh ⊢
    split
    · rw [if_pos ‹_›] at hh
      rcases hh with hh | ⟨h1, a0, w0, s2, E2, e2, _⟩
      · exact .inl (wpMonoBoth (fun a w h => ih a w h) (fun e a w ⟨s2, E2, e, h2, hs2, ev2⟩ => ⟨s2, E2, by subst e; exact h2, hs2, ev2⟩) hh)
      · cases e2
    · rw [if_neg ‹_›] at hh
      exact ih _ _ hh
theorem AW_region {P : Program} {id : Nat} {l : List Oper} {Q : Exit → St → Prop} {s : St} (h : SOps P l.toArray l (Q .normal) s) : AW P (.region id l.toArray false) Q s := by
  intro E a w hs
  refine wp_region_lit ?_
  have := h E a w hs
  revert this
  suffices H : ∀ (l' : List Oper) (a : Act) (w1 : World),
      wpList P l.toArray (fun e a'' w'' => ∃ s' E', e = .normal ∧ Q .normal s' ∧ Sim E' s' a'' w'' ∧ Ev E w E' w'') l' a w1 →
      wpList P l.toArray (fun e a'' w'' => ∃ s' E', Q e s' ∧ Sim E' s' a'' w'' ∧ Ev E w E' w'') l' a w1 from H l a w
  intro l'
  induction l' with
  | nil => exact fun a w1 ⟨s2, E2, e, h2, hs2, ev2⟩ => ⟨s2, E2, e ▸ h2, hs2, ev2⟩
  | cons o l' ih =>
    intro a w1 hh
    unfold wpList at hh ⊢
    split
    · rw [if_pos ‹_›] at hh
      rcases hh with hh | ⟨h1, a0, w0, s2, E2, e2, _⟩
      · exact .inl (wpMonoBoth (fun a w h => ih a w h) (fun e a w ⟨s2, E2, e, h2, hs2, ev2⟩ => ⟨s2, E2, by subst e; exact h2, hs2, ev2⟩) hh)
      · cases e2
    · rw [if_neg ‹_›] at hh
      exact ih _ _ hh
end Go.Proofs.YtcgocdcbceeoiaaGreat
