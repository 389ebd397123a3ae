/-
  Operations that make or change the walk's own variables: new variables, stores, rows that are made.
-/
import Derived.Test.YtcgocdcbceeoiaaGreatA6
import Derived.Laws.Tables
import Derived.Laws.CopyRow
namespace Go.Proofs.YtcgocdcbceeoiaaGreat
open Go

/-- The cells of a value, where they are known to be single ones. -/
def D.one (L : Loc) : D → Bool
  | .any | .agg _ | .tup _ => false
  | .ptr id g _ | .ms id g _ _ _ | .row id g _ _ => curOf L id == some g
  | _ => true
def cellsD (L : Loc) : D → Option (List D)
  | .agg cs => if cs.all (D.one L) then some cs else none
  | d => if d.one L then some [d] else none

theorem one_cell {E : Env} {L : Loc} {w : World} (hm : MemSim E L w) {v : Value} {d : D} (hr : Rep E w v d) (h : d.one L = true) : v.oneCell' = true := by
  cases hr with
  | any => simp [D.one] at h
  | agg => simp [D.one] at h
  | tup => simp [D.one] at h
  | ptr _ id g off h1 h2 h3 =>
    obtain ⟨b, cap, _, rfl⟩ := h3 (by rw [hm.c]; simpa [D.one] using h)
    rfl
  | ms _ id g off es len h1 h2 h3 =>
    obtain ⟨b, cap, _, _, rfl, _⟩ := h3 (by rw [hm.c]; simpa [D.one] using h)
    rfl
  | row _ id g es len h1 h2 h3 =>
    rcases h3 (by rw [hm.c]; simpa [D.one] using h) with ⟨_, _, a, rfl⟩ | ⟨b, cap, _, rfl, _⟩ <;> rfl
  | _ => rfl

theorem cells_of_one {v : Value} (h : v.oneCell' = true) : v.cells = #[v] := by cases v <;> simp_all [Value.oneCell', Value.cells]

theorem cells_rep {E : Env} {L : Loc} {w : World} (hm : MemSim E L w) {v : Value} {d : D} (hr : Rep E w v d) {cs : List D} (h : cellsD L d = some cs) :
    v.cells.size = cs.length ∧ (∀ (i : Nat) u c, v.cells[i]? = some u → cs[i]? = some c → Rep E w u c) ∧ ∀ u ∈ v.cells.toList, u.oneCell' = true := by
  have single : d.one L = true → cs = [d] → v.cells.size = cs.length ∧ (∀ (i : Nat) u c, v.cells[i]? = some u → cs[i]? = some c → Rep E w u c) ∧ ∀ u ∈ v.cells.toList, u.oneCell' = true := by
    intro h1 h2
    have h3 := one_cell hm hr h1
    rw [cells_of_one h3]
    subst h2
    refine ⟨rfl, fun i u c g1 g2 => ?_, fun u hu => ?_⟩
    · match i, g1, g2 with
      | 0, g1, g2 => simp at g1 g2; subst g1; subst g2; exact hr
    · simp at hu; subst hu; exact h3
  cases hr with
  | agg vs ds hl hrs =>
    simp only [cellsD] at h
    split at h
    · rename_i hall
      simp only [Option.some.injEq] at h
      subst h
      refine ⟨hl, hrs, fun u hu => ?_⟩
      obtain ⟨i, hi⟩ := List.getElem?_of_mem hu
      have hi' : vs[i]? = some u := by simpa [Value.cells] using hi
      have hlt : i < ds.length := by rw [← hl]; exact (Array.getElem?_eq_some_iff.1 hi').1
      exact one_cell hm (hrs i u ds[i] hi' (by simp [hlt])) ((List.all_eq_true.1 hall) _ (List.getElem_mem hlt))
    · simp at h
  | any => simp [cellsD, D.one] at h
  | tup => simp [cellsD, D.one] at h
  | _ =>
    simp only [cellsD] at h
    split at h
    · rename_i h1
      simp only [Option.some.injEq] at h
      exact single h1 h.symm
    · simp at h

def Env.push (E : Env) (b : Option (Nat × Nat)) (g : Nat) : Env :=
  { E with n := E.n + 1, β := fun i => if i = E.n then b else E.β i, c := fun i => if i = E.n then some g else E.c i }

theorem curOf_push (L : Loc) (B : Box) (id : Nat) : curOf (L ++ [some B]) id = if id = L.length then some B.cells.length else curOf L id := by
  unfold curOf
  by_cases h : id < L.length
  · rw [List.getElem?_append_left h, if_neg (by omega)]
  · rw [List.getElem?_append_right (by omega)]
    by_cases e : id = L.length
    · subst e; simp
    · rw [if_neg e]
      have : id - L.length ≠ 0 := by omega
      rw [List.getElem?_eq_none (l := L) (by omega)]
      cases hk : id - L.length with
      | zero => omega
      | succ k => simp

/-- A new block becomes a new variable of the walk's own. -/
theorem push_block {E : Env} {L : Loc} {w : World} (hm : MemSim E L w) (cur : Array Value) (t : TypeId) (cap : Nat) (B : Box) (hle : B.cells.length ≤ cur.size)
    (hrow : 0 < B.es → (∃ m, B.cells.length = m * B.es ∧ m ≤ cap) ∧ cap * B.es ≤ cur.size ∧ cap ≤ maxLen)
    (hr : ∀ (i : Nat) v d, cur[i]? = some v → B.cells[i]? = some d → Rep E w v d) :
    Ev E w (E.push (some (w.heap.size, cap)) B.cells.length) (w.alloc (.cells cur t)) ∧ MemSim (E.push (some (w.heap.size, cap)) B.cells.length) (L ++ [some B]) (w.alloc (.cells cur t)) := by
  have hsz : (w.alloc (.cells cur t)).heap.size = w.heap.size + 1 := by simp
  have hold : ∀ b, b < w.heap.size → (w.alloc (.cells cur t)).heap[b]? = w.heap[b]? := fun b hb => heap_alloc_old w _ b hb
  have hnew : (w.alloc (.cells cur t)).heap[w.heap.size]? = some (.cells cur t) := heap_alloc_new w _
  have ev : Ev E w (E.push (some (w.heap.size, cap)) B.cells.length) (w.alloc (.cells cur t)) := by
    refine ⟨rfl, rfl, rfl, by omega, rfl, fun _ h => h, fun b hb => hold b ?_, fun b h => .inl h, fun id b cap' h1 h2 h3 => ?_, by simp [Env.push], fun id hi g' h => ?_⟩
    · rcases hb with hb | hb
      · exact hm.ltS b hb
      · exact hm.ltF b hb
    · simp only [Env.push] at h1 h2 h3
      by_cases e : id = E.n
      · rw [if_pos e] at h3
        simp only [Option.some.injEq, Prod.mk.injEq] at h3
        exact .inl (by omega)
      · rw [if_neg e] at h2 h3
        exact .inr ⟨id, cap', by omega, h2, h3⟩
    · simp only [Env.push] at h
      rw [if_neg (by omega)] at h
      exact ⟨g', h, Nat.le_refl _, fun _ => by simp only [Env.push]; rw [if_neg (by omega)]⟩
  refine ⟨ev, by simp [Env.push, hm.n], fun id => ?_, fun id B' hB => ?_, fun i j Bi Bj b cb cb' hij hi hj hbi hbj => ?_, fun b h => ?_, fun b h => ?_⟩
  · rw [curOf_push]
    simp only [Env.push, ← hm.n, ← hm.c]
  · by_cases e : id = L.length
    · subst e
      simp at hB
      subst hB
      refine .inr ⟨w.heap.size, cap, cur, t, by simp [Env.push, hm.n], fun h => ?_, fun h => ?_, hnew, hle, hrow, fun i v d h1 h2 => (hr i v d h1 h2).ev ev⟩
      · have := hm.ltS _ h; omega
      · have := hm.ltF _ h; omega
    · have hlt : id < L.length := by
        have := (List.getElem?_eq_some_iff.1 hB).1
        simp at this; omega
      rw [List.getElem?_append_left hlt] at hB
      have hβ : (E.push (some (w.heap.size, cap)) B.cells.length).β id = E.β id := by simp [Env.push, hm.n, e]
      rcases hm.box id B' hB with h | ⟨b, cap', cur', t', h1, h2, h3, h4, h5, h6, h7⟩
      · exact .inl (by rw [hβ]; exact h)
      · exact .inr ⟨b, cap', cur', t', by rw [hβ]; exact h1, h2, h3, by rw [hold b (Array.getElem?_eq_some_iff.1 h4).1]; exact h4, h5, h6, fun i v d g1 g2 => (h7 i v d g1 g2).ev ev⟩
  · have key : ∀ k (Bk : Box) (b cb : Nat), (L ++ [some B])[k]? = some (some Bk) → (E.push (some (w.heap.size, cap)) B.cells.length).β k = some (b, cb) →
        (k = L.length ∧ b = w.heap.size) ∨ (k < L.length ∧ L[k]? = some (some Bk) ∧ E.β k = some (b, cb) ∧ b < w.heap.size) := by
      intro k Bk b cb hk hb
      by_cases e : k = L.length
      · left
        simp [Env.push, hm.n, e] at hb
        exact ⟨e, hb.1.symm⟩
      · right
        have hlt : k < L.length := by
          have := (List.getElem?_eq_some_iff.1 hk).1
          simp at this; omega
        rw [List.getElem?_append_left hlt] at hk
        have hb' : E.β k = some (b, cb) := by simpa [Env.push, hm.n, e] using hb
        refine ⟨hlt, hk, hb', ?_⟩
        rcases hm.box k Bk hk with ⟨h, _⟩ | ⟨b', cap', cur', t', h1, _, _, h4, _⟩
        · rw [hb'] at h; simp at h
        · rw [hb'] at h1
          simp only [Option.some.injEq, Prod.mk.injEq] at h1
          rw [h1.1]; exact (Array.getElem?_eq_some_iff.1 h4).1
    rcases key i Bi b cb hi hbi with ⟨h1, h2⟩ | ⟨h1, h2, h3, h4⟩ <;> rcases key j Bj b cb' hj hbj with ⟨k1, k2⟩ | ⟨k1, k2, k3, k4⟩
    · omega
    · omega
    · omega
    · exact hm.sep i j Bi Bj b cb cb' hij h2 k2 h3 k3
  · have := hm.ltS b h; omega
  · have := hm.ltF b h; omega

section
variable {P : Program} {o : Oper} {s : St} {K : St → Prop}

/-- The state with one variable more. -/
def St.push (s : St) (B : Box) : St := { s with loc := s.loc ++ [some B] }

theorem SOp_new {o : Oper} {s : St} {K : St → Prop} (B : Box) (d : D) (hd : dstOk o s = true)
    (h : ∀ E a w, Sim E s a w → ∃ (cur : Array Value) (t : TypeId) (cap : Nat) (v : Value), (execOp a.eval o).run P w = .ok (.value v) (w.alloc (.cells cur t)) ∧ B.cells.length ≤ cur.size ∧
      (0 < B.es → (∃ m, B.cells.length = m * B.es ∧ m ≤ cap) ∧ cap * B.es ≤ cur.size ∧ cap ≤ maxLen) ∧ (∀ (i : Nat) v d, cur[i]? = some v → B.cells[i]? = some d → Rep E w v d) ∧
      Rep (E.push (some (w.heap.size, cap)) B.cells.length) (w.alloc (.cells cur t)) v d)
    (hK : K ((s.push B).put o.dst d)) : SOp P o K s := by
  intro E a w hs
  obtain ⟨cur, t, cap, v, h1, h2, h3, h4, h5⟩ := h E a w hs
  obtain ⟨ev, hm⟩ := push_block hs.mem cur t cap B h2 h3 h4
  unfold Oper.wp
  rw [h1]
  refine ⟨_, _, hK, ?_, ev⟩
  have hs' : Sim E { s with loc := s.loc } a w := hs
  refine ⟨by cases hd' : o.dst <;> simpa [Act.put, hd'] using hs.defers, ?_, fun t' => ?_, by simpa [St.push] using hm⟩
  · have := hs.size
    cases hd' : o.dst <;> simpa [Act.put, St.push] using this
  · rw [St.put_get]
    by_cases e : o.dst = some t'
    · rw [if_pos e]
      have hlt : t' < a.tmps.size := by rw [hs.size]; exact dstOk_spec hd t' e
      simp only [e, Act.put]
      simp [hlt]; exact h5
    · rw [if_neg e]
      have : (a.put o.dst v).tmps.getD t' undef = a.tmps.getD t' undef := by
        cases hd' : o.dst with
        | none => rfl
        | some q =>
          have hne : q ≠ t' := fun e' => e (by rw [hd', e'])
          simp [Act.put, Array.getD_eq_getD_getElem?, Array.getElem?_setIfInBounds_ne hne]
      rw [this]; exact (hs.reg t').ev ev

/-- A parameter that lies in a variable. -/
theorem SOp_box {t : TypeId} {x : Operand} {d : D} {cs : List D} (ho : o.op = .box t x) (hx : s.ev x = d) (hc : cellsD s.loc d = some cs) (hd : dstOk o s = true)
    (hK : K ((s.push ⟨0, cs⟩).put o.dst (.ptr s.loc.length cs.length 0))) : SOp P o K s := by
  refine SOp_new ⟨0, cs⟩ _ hd (fun E a w hs => ?_) hK
  have hr : Rep E w (a.eval x) d := hx ▸ rep_ev hs.reg x
  obtain ⟨h1, h2, h3⟩ := cells_rep hs.mem hr hc
  refine ⟨(a.eval x).cells, t, 0, .pointer (some ⟨w.heap.size, 0, none⟩), ?_, by simp [h1], by simp, h2, ?_⟩
  · simp [execOp, ho, Instr.box, newVar, newRow]
  · refine .ptr _ _ _ _ ?_ ?_ ?_
    · simp [Env.push, hs.mem.n]
    · intro g0 hg
      simp [Env.push, hs.mem.n] at hg
      omega
    · intro _
      exact ⟨w.heap.size, 0, by simp [Env.push, hs.mem.n], rfl⟩

theorem SOp_alloc {t : TypeId} {cs : List D} [hz : TZero P t cs] (ho : o.op = .alloc t) (hd : dstOk o s = true)
    (hK : K ((s.push ⟨0, cs⟩).put o.dst (.ptr s.loc.length cs.length 0))) : SOp P o K s := by
  refine SOp_new ⟨0, cs⟩ _ hd (fun E a w hs => ?_) hK
  obtain ⟨i, z, h1, h2, h3⟩ := hz.out
  have hlen : z.cells.size = cs.length := by rw [← h3]; simp
  refine ⟨z.cells, t, 0, .pointer (some ⟨w.heap.size, 0, none⟩), ?_, by simp [hlen], by simp, fun i v d g1 g2 => ?_, ?_⟩
  · simp [execOp, ho, Instr.alloc, newVar, newRow, zeroValue, typeInfo, h1, h2]
  · rw [← h3] at g2
    simp only [List.getElem?_map, Array.getElem?_toList, g1, Option.map_some, Option.some.injEq] at g2
    subst g2; exact rep_ofV1 E w v
  · refine .ptr _ _ _ _ ?_ ?_ ?_
    · simp [Env.push, hs.mem.n]
    · intro g0 hg
      simp [Env.push, hs.mem.n] at hg
      omega
    · intro _
      exact ⟨w.heap.size, 0, by simp [Env.push, hs.mem.n], rfl⟩

/-- Cells overwritten from a place on. -/
def splice (l : List D) (k : Nat) (r : List D) : List D := l.take k ++ r ++ l.drop (k + r.length)
theorem splice_length {l r : List D} {k : Nat} (h : k + r.length ≤ l.length) : (splice l k r).length = l.length := by simp [splice]; omega

theorem curOf_set {L : Loc} {id : Nat} {B B' : Box} (h : L[id]? = some (some B)) (he : B'.cells.length = B.cells.length) (j : Nat) : curOf (L.set id (some B')) j = curOf L j := by
  unfold curOf
  by_cases e : j = id
  · subst e
    have hlt : j < L.length := (List.getElem?_eq_some_iff.1 h).1
    rw [List.getElem?_set_self hlt, h]
    simp [he]
  · rw [List.getElem?_set_ne (Ne.symm e)]

/-- Cells of a variable of the walk's own are written. -/
theorem store_block {E : Env} {L : Loc} {w : World} (hm : MemSim E L w) {id : Nat} {B : Box} (hB : L[id]? = some (some B)) {b cap : Nat} (hβ : E.β id = some (b, cap)) {cur : Array Value} {t : TypeId}
    (hb : w.heap[b]? = some (.cells cur t (0, 0))) {off : Nat} {vs : List Value} {ds : List D} (hl : vs.length = ds.length) (hfit : off + ds.length ≤ B.cells.length) (hr : ∀ (i : Nat) v d, vs[i]? = some v → ds[i]? = some d → Rep E w v d) :
    Ev E w E (w.setRow b (cur.toList.take off ++ vs ++ cur.toList.drop (off + vs.length)).toArray) ∧
      MemSim E (L.set id (some { B with cells := splice B.cells off ds })) (w.setRow b (cur.toList.take off ++ vs ++ cur.toList.drop (off + vs.length)).toArray) := by
  have hown := ownB_heap hm ⟨id, B, cap, hB, hβ⟩
  have hlt : id < L.length := (List.getElem?_eq_some_iff.1 hB).1
  obtain ⟨cap0, cur0, t0, k1, k2, k3, k4, k5, k6, k7⟩ : ∃ cap0 cur0 t0, cap0 = cap ∧ ¬ E.S b ∧ ¬ E.F b ∧ w.heap[b]? = some (.cells cur0 t0 (0, 0)) ∧ B.cells.length ≤ cur0.size ∧
      (0 < B.es → (∃ m, B.cells.length = m * B.es ∧ m ≤ cap) ∧ cap * B.es ≤ cur0.size ∧ cap ≤ maxLen) ∧ ∀ (i : Nat) v d, cur0[i]? = some v → B.cells[i]? = some d → Rep E w v d := by
    rcases hm.box id B hB with ⟨h4, _⟩ | ⟨b', cap', cur', t', h4, h⟩
    · rw [hβ] at h4; simp at h4
    · rw [hβ] at h4
      simp only [Option.some.injEq, Prod.mk.injEq] at h4
      obtain ⟨rfl, rfl⟩ := h4
      exact ⟨_, cur', t', rfl, h⟩
  rw [hb] at k4
  simp only [Option.some.injEq, Obj.cells.injEq] at k4
  obtain ⟨rfl, rfl, _⟩ := k4
  have hother : ∀ k, k ≠ b → (w.setRow b (cur.toList.take off ++ vs ++ cur.toList.drop (off + vs.length)).toArray).heap[k]? = w.heap[k]? := fun k hk => setRow_other w b k _ hk
  have hsz : (w.setRow b (cur.toList.take off ++ vs ++ cur.toList.drop (off + vs.length)).toArray).heap.size = w.heap.size := by simp [World.setRow]
  have ev : Ev E w E (w.setRow b (cur.toList.take off ++ vs ++ cur.toList.drop (off + vs.length)).toArray) := by
    refine ⟨rfl, rfl, rfl, by omega, rfl, fun _ h => h, fun k hk => hother k ?_, fun _ h => .inl h, fun id _ cap hi hc hβ => .inr ⟨id, cap, hi, hc, hβ⟩, Nat.le_refl _, fun _ _ g' h => ⟨g', h, Nat.le_refl _, fun _ => rfl⟩⟩
    rintro rfl
    rcases hk with hk | hk
    · exact k2 hk
    · exact k3 hk
  have hlen : (splice B.cells off ds).length = B.cells.length := splice_length hfit
  refine ⟨ev, by simpa using hm.n, fun j => ?_, fun j Bj hj => ?_, fun i j Bi Bj b1 cb cb' hij hi hj hbi hbj => ?_, fun b h => by rw [hsz]; exact hm.ltS b h, fun b h => by rw [hsz]; exact hm.ltF b h⟩
  · rw [curOf_set hB hlen]; exact hm.c j
  · by_cases e : j = id
    · subst e
      rw [List.getElem?_set_self hlt] at hj
      simp only [Option.some.injEq] at hj
      subst hj
      have hnewsz : (cur.toList.take off ++ vs ++ cur.toList.drop (off + vs.length)).toArray.size = cur.size := by
        simp only [List.size_toArray, List.length_append, List.length_take, List.length_drop, Array.length_toList]; omega
      refine .inr ⟨b, cap, _, t, hβ, k2, k3, setRow_heap w b cur _ t (0, 0) hb, by rw [hnewsz]; simp only [hlen]; exact k5, fun he => ?_, fun i v d g1 g2 => ?_⟩
      · rw [hnewsz]
        simp only [hlen]
        exact k6 he
      · simp only [List.getElem?_toArray] at g1
        simp only [splice] at g2
        refine Rep.ev ev ?_
        by_cases h1 : i < off
        · rw [List.getElem?_append_left (by simp; omega), List.getElem?_append_left (by simp; omega), List.getElem?_take, if_pos h1] at g1
          rw [List.getElem?_append_left (by simp; omega), List.getElem?_append_left (by simp; omega), List.getElem?_take, if_pos h1] at g2
          exact k7 i v d (by simpa using g1) g2
        · by_cases h2 : i < off + ds.length
          · rw [List.getElem?_append_left (by simp; omega), List.getElem?_append_right (by simp; omega)] at g1
            rw [List.getElem?_append_left (by simp; omega), List.getElem?_append_right (by simp; omega)] at g2
            simp only [List.length_take, Array.length_toList] at g1 g2
            rw [show min off cur.size = off by omega] at g1
            rw [show min off B.cells.length = off by omega] at g2
            exact hr _ v d g1 g2
          · rw [List.getElem?_append_right (by simp; omega), List.getElem?_drop] at g1
            rw [List.getElem?_append_right (by simp; omega), List.getElem?_drop] at g2
            simp only [List.length_append, List.length_take, Array.length_toList] at g1 g2
            rw [show off + vs.length + (i - (min off cur.size + vs.length)) = i by omega] at g1
            rw [show off + ds.length + (i - (min off B.cells.length + ds.length)) = i by omega] at g2
            exact k7 i v d (by simpa using g1) g2
    · rw [List.getElem?_set_ne (Ne.symm e)] at hj
      rcases hm.box j Bj hj with h | ⟨b1, cap1, cur1, t1, h1, h2, h3, h4, h5, h6, h7⟩
      · exact .inl h
      · have hne : b1 ≠ b := by
          rintro rfl
          exact hm.sep j id Bj B b1 cap1 cap e hj hB h1 hβ
        exact .inr ⟨b1, cap1, cur1, t1, h1, h2, h3, by rw [hother b1 hne]; exact h4, h5, h6, fun i v d g1 g2 => (h7 i v d g1 g2).ev ev⟩
  · have key : ∀ (k : Nat) (Bk : Box), (L.set id (some { B with cells := splice B.cells off ds }))[k]? = some (some Bk) → ∃ Bk' : Box, L[k]? = some (some Bk') := by
      intro k Bk hk
      by_cases e : k = id
      · subst e; exact ⟨B, hB⟩
      · rw [List.getElem?_set_ne (Ne.symm e)] at hk; exact ⟨Bk, hk⟩
    obtain ⟨Bi', hi'⟩ := key i Bi hi
    obtain ⟨Bj', hj'⟩ := key j Bj hj
    exact hm.sep i j Bi' Bj' b1 cb cb' hij hi' hj' hbi hbj

/-- A store into a variable of the walk's own. -/
theorem SOp_store {t n : Nat} {ag : Bool} {x y : Operand} {id g off : Nat} {B : Box} {d : D} {ds : List D} [ht : TElm P t n ag] (ho : o.op = .store t x y) (hx : s.ev x = .ptr id g off) (hB : s.loc[id]? = some (some B)) (hg : B.cells.length = g)
    (hy : s.ev y = d) (hds : cellsD s.loc d = some ds) (hn : ds.length = n) (hfit : off + n ≤ g) (hdst : o.dst = none)
    (hK : K { s with loc := s.loc.set id (some { B with cells := splice B.cells off ds }) }) : SOp P o K s := by
  intro E a w hs
  have hp : Rep E w (a.eval x) (.ptr id g off) := hx ▸ rep_ev hs.reg x
  have hv : Rep E w (a.eval y) d := hy ▸ rep_ev hs.reg y
  obtain ⟨h1, h2, h3⟩ := cells_rep hs.mem hv hds
  generalize hpe : a.eval x = p at hp
  cases hp with
  | ptr _ _ _ _ k1 k2 k3 =>
    have hcur := hs.mem.c id
    rw [curOf_some hB, hg] at hcur
    obtain ⟨b, cap, hβ, rfl⟩ := k3 hcur
    obtain ⟨⟨cur, t', hb⟩, _⟩ := ownB_heap hs.mem ⟨id, B, cap, hB, hβ⟩
    have hle : B.cells.length ≤ cur.size := by
      rcases hs.mem.box id B hB with ⟨h4, _⟩ | ⟨b', cap', cur', t'', h4, _, _, h5, h6, _⟩
      · rw [hβ] at h4; simp at h4
      · rw [hβ] at h4
        simp only [Option.some.injEq, Prod.mk.injEq] at h4
        obtain ⟨rfl, rfl⟩ := h4
        rw [hb] at h5
        simp only [Option.some.injEq, Obj.cells.injEq] at h5
        rw [h5.1]; exact h6
    have hvl : (a.eval y).cells.toList.length = ds.length := by simpa using h1
    obtain ⟨ev, hm⟩ := store_block hs.mem hB hβ hb (off := off) (vs := (a.eval y).cells.toList) (ds := ds) hvl (by omega) (fun i v d g1 g2 => h2 i v d (by simpa using g1) g2)
    have hst := run_storeCells_at P b off t' (a.eval y).cells.toList 0 cur w hb (by rw [hvl]; omega) h3
    simp only [Nat.add_zero] at hst
    unfold Oper.wp
    have hrun : (execOp a.eval o).run P w = .ok .skip (w.setRow b (cur.toList.take off ++ (a.eval y).cells.toList ++ cur.toList.drop (off + (a.eval y).cells.toList.length)).toArray) := by
      simp only [execOp, ho, hpe, Instr.storeAt, Instr.sureAddr, storeVar, Sem.run_bind, Sem.run_pure, Result.andThen_ok, run_sizeOf ht.n, h1, hn, ne_eq, not_true_eq_false, if_false, hst]
    rw [hrun]
    refine ⟨_, E, hK, ?_, ev⟩
    rw [hdst]
    exact ⟨hs.defers, hs.size, fun t => (hs.reg t).ev ev, hm⟩
end
end Go.Proofs.YtcgocdcbceeoiaaGreat
