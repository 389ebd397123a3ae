/-
  Regions that draw their order: if every operation is quiet in the order of the text, and no two operations that touch one temporary are left unordered, the outcome is that of the text in every order.
-/
import Derived.Test.YtcgocdcbceeoiaaGreatA3
namespace Go.Proofs.YtcgocdcbceeoiaaGreat
open Go

/-- A run of quiet operations in the order of the text. -/
inductive QRun (P : Program) (ops : Array Oper) : List Oper → St → List D → Prop
  | nil (s : St) : QRun P ops [] s []
  | q (o : Oper) (l : List Oper) (s : St) (d : D) (ds : List D) : Guard ops s o true → QOp P o s d → dstOk o s = true → QRun P ops l (s.put o.dst d) ds → QRun P ops (o :: l) s (d :: ds)
  | f (o : Oper) (l : List Oper) (s : St) (ds : List D) : Guard ops s o false → dstOk o s = true → QRun P ops l (s.put o.dst (.tup [])) ds → QRun P ops (o :: l) s (.tup [] :: ds)

def runPut : List Oper → List D → St → St
  | o :: l, d :: ds, s => runPut l ds (s.put o.dst d)
  | _, _, s => s

def edgeTo (o : Oper) (i : Nat) : Bool := o.after.any fun e => Region.binds .any e && e.on == i
/-- Two operations that touch one temporary are ordered; what an operation waits for stands before it. -/
def orderOk (l : List Oper) : Bool :=
  (List.range l.length).all fun j => match l[j]? with
    | none => true
    | some oj => (oj.after.all fun e => !Region.binds .any e || decide (e.on < j)) &&
      (List.range j).all fun i => match l[i]? with
        | none => true
        | some oi => oi.apart l.toArray oj || edgeTo oj i

/-- The value that stands in t when the operations of X among the first k have been carried out. -/
def wr (dst : Nat → Option Tmp) (d : Nat → D) (X : Nat → Bool) (g : Nat → D) (t : Tmp) : Nat → D
  | 0 => g t
  | k + 1 => if X k = true ∧ dst k = some t then d k else wr dst d X g t k

section
variable {dst : Nat → Option Tmp} {d : Nat → D} {g : Nat → D} {t : Tmp}
theorem wr_congr {X Y : Nat → Bool} : ∀ k, (∀ j, j < k → dst j = some t → X j = Y j) → wr dst d X g t k = wr dst d Y g t k
  | 0, _ => rfl
  | k + 1, h => by
    have ih := wr_congr k (fun j hj => h j (by omega))
    simp only [wr, ih]
    by_cases hd : dst k = some t
    · rw [h k (by omega) hd]
    · simp [hd]
theorem wr_above {X : Nat → Bool} {i : Nat} : ∀ k, i ≤ k → (∀ j, i ≤ j → j < k → dst j = some t → X j = false) → wr dst d X g t k = wr dst d X g t i
  | 0, h, _ => by have : i = 0 := by omega
                  rw [this]
  | k + 1, h, hx => by
    by_cases e : i = k + 1
    · rw [e]
    · have ih := wr_above (i := i) k (by omega) (fun j h1 h2 => hx j h1 (by omega))
      simp only [wr]
      rw [if_neg, ih]
      rintro ⟨h1, h2⟩
      rw [hx k (by omega) (by omega) h2] at h1
      cases h1
theorem wr_set {X : Nat → Bool} {i n : Nat} (hi : i < n) (hx : dst i = some t → ∀ j, i < j → j < n → dst j = some t → X j = false) :
    wr dst d (fun j => if j = i then true else X j) g t n = if dst i = some t then d i else wr dst d X g t n := by
  by_cases h : dst i = some t
  · rw [if_pos h]
    have e := wr_above (dst := dst) (d := d) (g := g) (t := t) (X := fun j => if j = i then true else X j) (i := i + 1) n (by omega) (fun j h1 h2 h3 => by
      simp only [if_neg (show j ≠ i by omega)]; exact hx h j (by omega) h2 h3)
    rw [e]
    simp [wr, h]
  · rw [if_neg h]
    exact wr_congr n fun j hj hd => by
      by_cases e : j = i
      · subst e; exact absurd hd h
      · simp [e]
end

theorem runPut_loc : ∀ (l : List Oper) (ds : List D) (s : St), (runPut l ds s).loc = s.loc ∧ (runPut l ds s).sz = s.sz
  | [], _, _ => ⟨rfl, rfl⟩
  | _ :: _, [], _ => ⟨rfl, rfl⟩
  | o :: l, d :: ds, s => by
    have := runPut_loc l ds (s.put o.dst d)
    simpa [runPut] using this

def dstF (l : List Oper) (k : Nat) : Option Tmp := (l[k]?).bind (·.dst)
def dF (ds : List D) (k : Nat) : D := ds.getD k .any

theorem St.put_get (s : St) (o : Option Tmp) (d : D) (t : Tmp) : (s.put o d).get t = if o = some t then d else s.get t := by
  cases o with
  | none => simp [St.put]
  | some i =>
    simp only [St.put, Option.some.injEq, upd_apply]
    by_cases h : t = i
    · subst h; simp
    · simp [h, Ne.symm h]

theorem wr_shift (l : List Oper) (o : Oper) (ds : List D) (d : D) (X : Nat → Bool) (s : St) (t : Tmp) (h0 : X 0 = true) : ∀ k,
    wr (dstF (o :: l)) (dF (d :: ds)) X s.get t (k + 1) = wr (dstF l) (dF ds) (fun j => X (j + 1)) (s.put o.dst d).get t k
  | 0 => by
    simp only [wr, h0, true_and]
    rw [St.put_get]
    simp [dstF, dF]
  | k + 1 => by
    have ih := wr_shift l o ds d X s t h0 k
    rw [wr, ih]
    conv => rhs; rw [wr]
    simp [dstF, dF]

theorem runPut_get : ∀ (l : List Oper) (ds : List D) (s : St), ds.length = l.length → ∀ t, (runPut l ds s).get t = wr (dstF l) (dF ds) (fun _ => true) s.get t l.length
  | [], [], s, _, t => by simp [runPut, wr]
  | o :: l, d :: ds, s, h, t => by
    rw [List.length_cons, wr_shift l o ds d (fun _ => true) s t rfl]
    exact runPut_get l ds _ (by simpa using h) t

theorem QRun.length {P : Program} {ops : Array Oper} {l : List Oper} {s : St} {ds : List D} (h : QRun P ops l s ds) : ds.length = l.length := by
  induction h with
  | nil => rfl
  | q _ _ _ _ _ _ _ _ _ ih => simp [ih]
  | f _ _ _ _ _ _ _ ih => simp [ih]

/-- What the run shows of operation i: in the state in which the text comes to it. -/
theorem QRun.at {P : Program} {ops : Array Oper} {l : List Oper} {s : St} {ds : List D} (h : QRun P ops l s ds) : ∀ (i : Nat) (o : Oper), l[i]? = some o →
    ∃ si : St, si.sz = s.sz ∧ si.loc = s.loc ∧ (∀ t, si.get t = wr (dstF l) (dF ds) (fun _ => true) s.get t i) ∧ dstOk o s = true ∧
      ((Guard ops si o true ∧ QOp P o si (dF ds i)) ∨ (Guard ops si o false ∧ dF ds i = .tup [])) := by
  induction h with
  | nil s => intro i o h; simp at h
  | q o l s d ds g hq hd hrest ih =>
    intro i o' ho
    cases i with
    | zero =>
      simp at ho; subst ho
      exact ⟨s, rfl, rfl, fun t => by simp [wr], hd, .inl ⟨g, by simpa [dF] using hq⟩⟩
    | succ i =>
      simp at ho
      obtain ⟨si, h1, h2, h3, h4, h5⟩ := ih i o' ho
      refine ⟨si, by simpa using h1, by simpa using h2, fun t => ?_, by simpa [dstOk] using h4, ?_⟩
      · rw [h3, wr_shift l o ds d (fun _ => true) s t rfl]
      · simpa [dF] using h5
  | f o l s ds g hd hrest ih =>
    intro i o' ho
    cases i with
    | zero =>
      simp at ho; subst ho
      exact ⟨s, rfl, rfl, fun t => by simp [wr], hd, .inr ⟨g, by simp [dF]⟩⟩
    | succ i =>
      simp at ho
      obtain ⟨si, h1, h2, h3, h4, h5⟩ := ih i o' ho
      refine ⟨si, by simpa using h1, by simpa using h2, fun t => ?_, by simpa [dstOk] using h4, ?_⟩
      · rw [h3, wr_shift l o ds (.tup []) (fun _ => true) s t rfl]
      · simpa [dF] using h5

theorem orderOk_back {l : List Oper} (h : orderOk l = true) {j : Nat} {oj : Oper} (hj : l[j]? = some oj) : ∀ e ∈ oj.after, Region.binds .any e = true → e.on < j := by
  intro e he hb
  have h1 := (List.all_eq_true.1 h) j (List.mem_range.2 (List.getElem?_eq_some_iff.1 hj).1)
  simp only [hj, Bool.and_eq_true] at h1
  have h2 := (Array.all_eq_true'.1 h1.1) e he
  simpa [hb] using h2
theorem orderOk_pair {l : List Oper} (h : orderOk l = true) {i j : Nat} {oi oj : Oper} (hi : l[i]? = some oi) (hj : l[j]? = some oj) (hij : i < j) :
    oi.apart l.toArray oj = true ∨ edgeTo oj i = true := by
  have h1 := (List.all_eq_true.1 h) j (List.mem_range.2 (List.getElem?_eq_some_iff.1 hj).1)
  simp only [hj, Bool.and_eq_true] at h1
  have h2 := (List.all_eq_true.1 h1.2) i (List.mem_range.2 hij)
  simpa [hi] using h2
theorem edgeTo_spec {o : Oper} {i : Nat} (h : edgeTo o i = true) : ∃ e ∈ o.after, Region.binds .any e = true ∧ e.on = i := by
  simp only [edgeTo, Array.any_eq_true'] at h
  obtain ⟨e, he, h2⟩ := h
  simp only [Bool.and_eq_true, beq_iff_eq] at h2
  exact ⟨e, he, h2.1, h2.2⟩

theorem mem_looksAt_operand {ops : Array Oper} {o : Oper} {t : Tmp} (h : Operand.tmp t ∈ o.op.operands) : t ∈ o.looksAt ops := by
  unfold Oper.looksAt
  refine List.mem_append.2 (.inl (List.mem_filterMap.2 ⟨.tmp t, Array.mem_toList_iff.2 h, rfl⟩))
theorem mem_looksAt_guard {ops : Array Oper} {o : Oper} {j : Nat} {b : Bool} {t : Tmp} (hg : o.guard = some (j, b)) (ht : gslot ops j = some t) : t ∈ o.looksAt ops := by
  unfold Oper.looksAt
  refine List.mem_append.2 (.inr ?_)
  simp only [hg]
  unfold gslot at ht
  simp [ht]

/-- What stands while the operations of 'listed' have been carried out. -/
structure Mid (l : List Oper) (ds : List D) (s : St) (E0 : Env) (w0 : World) (listed : Array Bool) (a : Act) (w : World) : Prop where
  defers : a.defers = []
  size : a.tmps.size = s.sz
  len : listed.size = l.length
  down : ∀ j oj, l[j]? = some oj → listed.getD j false = true → ∀ e ∈ oj.after, Region.binds .any e = true → listed.getD e.on false = true
  env : ∃ E, Ev E0 w0 E w ∧ MemSim E s.loc w ∧ ∀ t, Rep E w (a.tmps.getD t undef) (wr (dstF l) (dF ds) (fun j => listed.getD j false) s.get t l.length)

theorem mem_ready {ops : Array Oper} {listed : Array Bool} {i : Nat} (h : i ∈ Region.ready .any ops listed) :
    i < ops.size ∧ listed.getD i true = false ∧ ∃ o, ops[i]? = some o ∧ ∀ e ∈ o.after, Region.binds .any e = true → listed.getD e.on false = true := by
  simp only [Region.ready, List.mem_filter, List.mem_range, Bool.and_eq_true] at h
  obtain ⟨h1, h2, h3⟩ := h
  refine ⟨h1, by simpa using h2, ops[i], by simp, fun e he hb => ?_⟩
  simp only [Array.getElem?_eq_getElem h1, Option.map_some, Option.getD_some] at h3
  have := (Array.all_eq_true'.1 h3) e he
  simpa [hb] using this

theorem ready_nil {l : List Oper} (ho : orderOk l = true) {listed : Array Bool} (hl : listed.size = l.length) (h : Region.ready .any l.toArray listed = []) : ∀ i, i < l.length → listed.getD i false = true := by
  intro i
  induction i using Nat.strongRecOn with
  | _ i ih =>
    intro hi
    cases hc : listed.getD i false with
    | true => rfl
    | false =>
      exfalso
      have hmem : i ∈ Region.ready .any l.toArray listed := by
        simp only [Region.ready, List.mem_filter, List.mem_range, List.size_toArray, Bool.and_eq_true]
        refine ⟨hi, ?_, ?_⟩
        · have : listed.getD i true = false := by
            simp only [Array.getD_eq_getD_getElem?] at hc ⊢
            rw [Array.getElem?_eq_getElem (by omega)] at hc ⊢
            simpa using hc
          simp [this]
        · have hoi : l.toArray[i]? = some l[i] := by simp [hi]
          rw [hoi]
          simp only [Option.map_some, Option.getD_some]
          refine Array.all_eq_true'.2 fun e he => ?_
          cases hb : Region.binds .any e with
          | false => rfl
          | true =>
            have hlt := orderOk_back ho (j := i) (oj := l[i]) (by simp [hi]) e he hb
            simp [ih e.on hlt (by omega)]
      rw [h] at hmem
      cases hmem

theorem getD_set {A : Array Bool} {i j : Nat} (hi : i < A.size) : (A.setIfInBounds i true).getD j false = if j = i then true else A.getD j false := by
  simp only [Array.getD_eq_getD_getElem?]
  by_cases h : j = i
  · subst h; simp [hi]
  · rw [Array.getElem?_setIfInBounds_ne (Ne.symm h)]; simp [h]

/-- One operation that may come up now. -/
theorem mid_step {P : Program} {l : List Oper} {ds : List D} {s : St} (ho : orderOk l = true) (hrun : QRun P l.toArray l s ds) {E0 : Env} {w0 : World} {listed : Array Bool} {a : Act} {w : World}
    (hm : Mid l ds s E0 w0 listed a w) {i : Nat} (hi : i ∈ Region.ready .any l.toArray listed) {K : Act → World → Prop} {Q : Exit → Act → World → Prop}
    (hK : ∀ a' w', Mid l ds s E0 w0 (listed.setIfInBounds i true) a' w' → K a' w') : wpOp P l.toArray Q i K a w := by
  obtain ⟨h1, h2, o, h3, h4⟩ := mem_ready hi
  simp only [List.size_toArray] at h1
  have hoi : l[i]? = some o := by simpa using h3
  have hnl : listed.getD i false = false := by
    simp only [Array.getD_eq_getD_getElem?] at h2 ⊢
    rw [Array.getElem?_eq_getElem (by rw [hm.len]; exact h1)] at h2 ⊢
    simpa using h2
  obtain ⟨si, e1, e2, e3, e4, e5⟩ := hrun.at i o hoi
  obtain ⟨E, ev, hmem, hreg⟩ := hm.env
  -- what the operation looks at stands as the text has it
  have hsame : ∀ t, t ∈ o.looksAt l.toArray → wr (dstF l) (dF ds) (fun j => listed.getD j false) s.get t l.length = si.get t := by
    intro t ht
    rw [e3]
    rw [wr_above (i := i) l.length (by omega)]
    · refine wr_congr i fun j hj hd => ?_
      obtain ⟨oj, hoj⟩ : ∃ oj, l[j]? = some oj := ⟨l[j]'(by omega), by simp [show j < l.length by omega]⟩
      have hdj : oj.dst = some t := by simpa [dstF, hoj] using hd
      rcases orderOk_pair ho hoj hoi hj with hap | hed
      · exact absurd ht ((Oper.apart_spec hap).1 t hdj)
      · obtain ⟨e, he, hb, hon⟩ := edgeTo_spec hed
        show listed.getD j false = true
        rw [← hon]; exact h4 e he hb
    · intro j hj hjn hd
      by_cases hji : j = i
      · subst hji; exact hnl
      · obtain ⟨oj, hoj⟩ : ∃ oj, l[j]? = some oj := ⟨l[j], by simp [hjn]⟩
        have hdj : oj.dst = some t := by simpa [dstF, hoj] using hd
        rcases orderOk_pair ho hoi hoj (by omega) with hap | hed
        · exact absurd ht ((Oper.apart_spec hap).2.2 t hdj)
        · obtain ⟨e, he, hb, hon⟩ := edgeTo_spec hed
          cases hc : listed.getD j false with
          | false => rfl
          | true =>
            have := hm.down j oj hoj hc e he hb
            rw [hon, hnl] at this
            cases this
  -- what comes behind it
  have hafter : ∀ v E' w', Ev E w E' w' → MemSim E' s.loc w' → Rep E' w' v (dF ds i) → Mid l ds s E0 w0 (listed.setIfInBounds i true) (a.put o.dst v) w' := by
    intro v E' w' hev hme hr
    have hlt : i < listed.size := by rw [hm.len]; exact h1
    refine ⟨by cases hd : o.dst <;> simpa [Act.put, hd] using hm.defers, ?_, by simpa using hm.len, ?_, E', ev.trans hev, hme, fun t => ?_⟩
    · have := hm.size
      cases hd : o.dst <;> simpa [Act.put] using this
    · intro j oj hoj hl e he hb
      rw [getD_set hlt] at hl ⊢
      by_cases hji : j = i
      · subst hji
        rw [hoi] at hoj; cases hoj
        have := h4 e he hb
        simp [this]
      · rw [if_neg hji] at hl
        have := hm.down j oj hoj hl e he hb
        simp [this]
    · have hx : (fun j => (listed.setIfInBounds i true).getD j false) = fun j => if j = i then true else listed.getD j false := by
        funext j; exact getD_set hlt
      rw [hx, wr_set h1]
      · have hdst : dstF l i = o.dst := by simp [dstF, hoi]
        rw [hdst]
        by_cases ht : o.dst = some t
        · rw [if_pos ht]
          have hts : t < a.tmps.size := by rw [hm.size]; exact dstOk_spec e4 t ht
          simp only [ht, Act.put]
          simp [hts]; exact hr
        · rw [if_neg ht]
          have : (a.put o.dst v).tmps.getD t undef = a.tmps.getD t undef := by
            cases hd : o.dst with
            | none => rfl
            | some q =>
              have hne : q ≠ t := fun e => ht (by rw [hd, e])
              simp [Act.put, Array.getD_eq_getD_getElem?, Array.getElem?_setIfInBounds_ne hne]
          rw [this]; exact (hreg t).ev hev
      · intro hdi j hj hjn hd
        have hdi : o.dst = some t := by simpa [dstF, hoi] using hdi
        obtain ⟨oj, hoj⟩ : ∃ oj, l[j]? = some oj := ⟨l[j], by simp [hjn]⟩
        have hdj : oj.dst = some t := by simpa [dstF, hoj] using hd
        rcases orderOk_pair ho hoi hoj hj with hap | hed
        · exact absurd hdj ((Oper.apart_spec hap).2.1 t hdi)
        · obtain ⟨e, he, hb, hon⟩ := edgeTo_spec hed
          cases hc : listed.getD j false with
          | false => rfl
          | true =>
            have := hm.down j oj hoj hc e he hb
            rw [hon, hnl] at this
            cases this
  -- the guard says what it says in the text
  have hg : ∀ r, Guard l.toArray si o r → Region.wanted o (yielded l.toArray a.tmps) = r := by
    intro r g
    cases g with
    | free h => simp [Region.wanted, h]
    | blank j b t g1 g2 g3 =>
      have hrep : Rep E w (a.tmps.getD t undef) (.tup []) := by
        have := hreg t
        rwa [hsame t (mem_looksAt_guard g1 g2), g3] at this
      have h1 : ∃ vs, a.tmps.getD t undef = .tuple vs := by
        generalize a.tmps.getD t undef = v at hrep
        cases hrep with
        | tup vs _ _ _ => exact ⟨vs, rfl⟩
      obtain ⟨vs, h1⟩ := h1
      have hy : yielded l.toArray a.tmps j = none := by
        have g2' := g2
        unfold gslot at g2'
        simp only [yielded, g2', Option.bind_some]
        cases h : a.tmps[t]? with
        | none => rfl
        | some x =>
          rw [Array.getD_eq_getD_getElem?, h] at h1
          simp at h1
          rw [h1]
      simp only [Region.wanted, g1, hy]; rfl
    | asked j b b' t r g1 g2 g3 g4 =>
      have hrep : Rep E w (a.tmps.getD t undef) (.bool b') := by
        have := hreg t
        rwa [hsame t (mem_looksAt_guard g1 g2), g3] at this
      have hy : yielded l.toArray a.tmps j = some b' := by
        have h1 : a.tmps.getD t undef = .bool b' := Rep.bool_inv hrep
        have h2 : a.tmps[t]? = some (.bool b') := by
          rw [Array.getD_eq_getD_getElem?] at h1
          cases h : a.tmps[t]? with
          | none => rw [h] at h1; simp [undef] at h1
          | some x => rw [h] at h1; simp at h1; rw [h1]
        unfold gslot at g2
        simp only [yielded, g2, h2, Option.bind_some]
      simp only [Region.wanted, g1, hy]
      rw [← g4]
      cases b <;> cases b' <;> rfl
  unfold wpOp
  rw [h3]
  simp only []
  rcases e5 with ⟨g, hq⟩ | ⟨g, hd⟩
  · rw [if_pos (hg true g)]
    have hops : ∀ x ∈ o.op.operands, Rep E w (a.eval x) (si.ev x) := by
      intro x hx
      cases x with
      | tmp t =>
        show Rep E w (a.tmps.getD t undef) (si.get t)
        rw [← hsame t (mem_looksAt_operand hx)]
        exact hreg t
      | const v => exact rep_ofV E w v
      | global g => exact .any _
      | func f => exact .fn f #[] [] rfl (by simp)
    refine .inl (wpMonoBoth ?_ (fun _ _ _ h => h.elim) (hq E a w hm.defers (by rw [e1]; exact hm.size) hops (by rw [e2]; exact hmem)))
    rintro a' w' ⟨v, E', ea, hr, hme, hev⟩
    subst ea
    exact hK _ _ (hafter v E' w' hev (by rwa [e2] at hme) hr)
  · rw [if_neg (by rw [hg false g]; simp)]
    exact hK _ _ (hafter undef E w (Ev.refl E w) hmem (by rw [hd]; exact .tup #[] [] rfl (by simp)))

theorem mid_any {P : Program} {l : List Oper} {ds : List D} {s : St} (ho : orderOk l = true) (hrun : QRun P l.toArray l s ds) {E0 : Env} {w0 : World} {Q : Exit → Act → World → Prop}
    (hQ : ∀ a w E, Sim E (runPut l ds s) a w → Ev E0 w0 E w → Q .normal a w) : ∀ (fuel : Nat) (listed : Array Bool) (a : Act) (w : World), Mid l ds s E0 w0 listed a w →
      (listed.toList.filter (fun b => !b)).length ≤ fuel → wpAny P .any l.toArray Q fuel listed a w := by
  have hend : ∀ listed a w, Mid l ds s E0 w0 listed a w → Region.ready .any l.toArray listed = [] → Q .normal a w := by
    intro listed a w hm hr
    have hall := ready_nil ho hm.len hr
    obtain ⟨E, ev, hmem, hreg⟩ := hm.env
    have hl := runPut_loc l ds s
    refine hQ a w E ⟨hm.defers, by rw [hl.2]; exact hm.size, fun t => ?_, by rw [hl.1]; exact hmem⟩ ev
    rw [runPut_get l ds s hrun.length t]
    rw [wr_congr (Y := fun j => listed.getD j false) l.length (fun j hj _ => (hall j hj).symm)]
    exact hreg t
  intro fuel
  induction fuel with
  | zero =>
    intro listed a w hm hf
    have hr : Region.ready .any l.toArray listed = [] := by
      cases h : Region.ready .any l.toArray listed with
      | nil => rfl
      | cons i r =>
        exfalso
        obtain ⟨h1, h2, _⟩ := mem_ready (i := i) (by rw [h]; simp)
        simp only [List.size_toArray] at h1
        have hnl : listed[i]'(by rw [hm.len]; exact h1) = false := by
          simpa [Array.getD_eq_getD_getElem?, hm.len, h1] using h2
        have : (false : Bool) ∈ listed.toList.filter (fun b => !b) := by
          refine List.mem_filter.2 ⟨?_, rfl⟩
          rw [← hnl]; exact Array.mem_toList_iff.2 (Array.getElem_mem _)
        have := List.length_pos_of_mem this
        omega
    exact ⟨hr, hend listed a w hm hr⟩
  | succ fuel ih =>
    intro listed a w hm hf
    refine ⟨hend listed a w hm, fun i hi => mid_step ho hrun hm hi fun a' w' hm' => ih _ a' w' hm' ?_⟩
    obtain ⟨h1, h2, _⟩ := mem_ready hi
    simp only [List.size_toArray] at h1
    have hlt : i < listed.size := by rw [hm.len]; exact h1
    have hnl : listed[i] = false := by simpa [Array.getD_eq_getD_getElem?, hlt] using h2
    have key : ∀ (A : List Bool) (i : Nat) (h : i < A.length), A[i] = false → ((A.set i true).filter (fun b => !b)).length + 1 = (A.filter (fun b => !b)).length := by
      intro A
      induction A with
      | nil => intro i h; simp at h
      | cons b A ih =>
        intro i h hb
        cases i with
        | zero => simp at hb; subst hb; simp
        | succ i =>
          simp at hb h
          have := ih i h hb
          cases b <;> simp [List.set_cons_succ] <;> omega
    have := key listed.toList i (by simpa using hlt) (by simpa using hnl)
    rw [Array.toList_setIfInBounds]
    omega

theorem AW_region_draw {P : Program} {id : Nat} {l : List Oper} {Q : Exit → St → Prop} {s : St} {ds : List D} (hm : P.follows .mixedOrders = true) (ho : orderOk l = true)
    (hrun : QRun P l.toArray l s ds) (h : Q .normal (runPut l ds s)) : AW P (.region id l.toArray true) Q s := by
  intro E a w hs
  refine wp_region_any hm (mid_any (E0 := E) (w0 := w) ho hrun (fun a' w' E' hS ev => ⟨_, E', h, hS, ev⟩) _ _ a _ ?_ ?_)
  · have ev0 := Ev.sameHeap E (w := w) (w' := { w with drawn := w.drawn + 1 }) rfl rfl rfl rfl
    refine ⟨hs.defers, hs.size, by simp, fun j oj _ hl => ?_, E, ev0, hs.mem.sameHeap rfl rfl rfl rfl, fun t => ?_⟩
    · exfalso
      simp only [Array.getD_eq_getD_getElem?, Array.getElem?_replicate] at hl
      split at hl <;> simp at hl
    · rw [wr_congr (Y := fun _ => false) l.length (fun j _ _ => by
        simp only [Array.getD_eq_getD_getElem?, Array.getElem?_replicate]
        split <;> simp)]
      rw [wr_above (i := 0) l.length (by omega) (fun _ _ _ _ => rfl)]
      exact (hs.reg t).ev ev0
  · simp

theorem AW_seq_region_draw {P : Program} {id : Nat} {l : List Oper} {y : Code} {Q : Exit → St → Prop} {s : St} {ds : List D} (hm : P.follows .mixedOrders = true) (ho : orderOk l = true)
    (hrun : QRun P l.toArray l s ds) (h : AW P y Q (runPut l ds s)) : AW P (.seq (.region id l.toArray true) y) Q s :=
  AW_seq (AW_region_draw hm ho hrun h)

/-- The same, operation by operation. -/
def QOps (P : Program) (ops : Array Oper) (l : List Oper) (K : St → Prop) (s : St) : Prop := ∃ ds, QRun P ops l s ds ∧ K (runPut l ds s)
section
variable {P : Program} {ops : Array Oper} {o : Oper} {l : List Oper} {K : St → Prop} {s : St}
theorem QOps_nil (h : K s) : QOps P ops [] K s := ⟨[], .nil s, h⟩
theorem QOps_q {d : D} (g : Guard ops s o true) (hq : QOp P o s d) (hd : dstOk o s = true) (h : QOps P ops l K (s.put o.dst d)) : QOps P ops (o :: l) K s :=
  let ⟨ds, h1, h2⟩ := h; ⟨d :: ds, .q o l s d ds g hq hd h1, h2⟩
theorem QOps_f (g : Guard ops s o false) (hd : dstOk o s = true) (h : QOps P ops l K (s.put o.dst (.tup []))) : QOps P ops (o :: l) K s :=
  let ⟨ds, h1, h2⟩ := h; ⟨.tup [] :: ds, .f o l s ds g hd h1, h2⟩
theorem QOps_split (t : Tmp) {b : Bool} (ht : s.get t = .bool b) (h1 : b = true → QOps P ops l K (s.put (some t) (.bool true))) (h0 : b = false → QOps P ops l K (s.put (some t) (.bool false))) : QOps P ops l K s := by
  have e : ∀ x, b = x → s.put (some t) (.bool x) = s := by
    rintro x rfl
    cases s
    simp only [St.put, upd_self _ _ ht]
  cases b
  · have := h0 rfl; rwa [e false rfl] at this
  · have := h1 rfl; rwa [e true rfl] at this
end
theorem AW_seq_draw {P : Program} {id : Nat} {l : List Oper} {y : Code} {Q : Exit → St → Prop} {s : St} (hm : P.follows .mixedOrders = true) (ho : orderOk l = true)
    (h : QOps P l.toArray l (AW P y Q) s) : AW P (.seq (.region id l.toArray true) y) Q s :=
  let ⟨_, h1, h2⟩ := h; AW_seq_region_draw hm ho h1 h2
theorem AW_draw {P : Program} {id : Nat} {l : List Oper} {Q : Exit → St → Prop} {s : St} (hm : P.follows .mixedOrders = true) (ho : orderOk l = true)
    (h : QOps P l.toArray l (Q .normal) s) : AW P (.region id l.toArray true) Q s :=
  let ⟨_, h1, h2⟩ := h; AW_region_draw hm ho h1 h2
end Go.Proofs.YtcgocdcbceeoiaaGreat
