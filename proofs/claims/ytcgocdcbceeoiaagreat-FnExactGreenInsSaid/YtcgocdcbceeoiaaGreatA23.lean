/-
  Regions that draw their order and change the walk's variables: what changes them is ordered, what only looks at them may come between in any order.
-/
import Derived.Test.YtcgocdcbceeoiaaGreatA10
import Derived.Test.YtcgocdcbceeoiaaGreatA20
import Derived.Test.YtcgocdcbceeoiaaGreatA15
namespace Go.Proofs.YtcgocdcbceeoiaaGreat
open Go

/-- An operation that turns the variables into L' and yields d, whatever else the state holds. -/
def HOp (P : Program) (o : Oper) (s : St) (L' : Loc) (d : D) : Prop :=
  ∀ s1 : St, s1.sz = s.sz → s1.loc = s.loc → (∀ x ∈ o.op.operands, s1.ev x = s.ev x) → SOp P o (fun s' => s' = { s1 with loc := L' }.put o.dst d) s1

def edgesOf (l : List Oper) (k : Nat) : List Nat := match l[k]? with
  | some o => (o.after.toList.filter fun e => Region.binds .any e).map (·.on)
  | none => []
/-- What the operations of a list wait for, those below k being looked at. -/
def ancL (l : List Oper) : Nat → List Nat → List Nat
  | 0, S => S
  | k + 1, S => ancL l k (cond (S.contains k) (S ++ edgesOf l k) S)
theorem ancL_of {l : List Oper} {Q : Nat → Prop} (hQ : ∀ k o, l[k]? = some o → ∀ e ∈ o.after, Region.binds .any e = true → Q k → Q e.on) : ∀ (k : Nat) (S : List Nat), (∀ y ∈ S, Q y) → ∀ x ∈ ancL l k S, Q x
  | 0, S, h, x, hx => h x hx
  | k + 1, S, h, x, hx => by
    refine ancL_of hQ k _ (fun y hy => ?_) x hx
    cases hc : S.contains k with
    | false => rw [hc] at hy; exact h y hy
    | true =>
      rw [hc] at hy
      rcases List.mem_append.1 hy with hy | hy
      · exact h y hy
      · unfold edgesOf at hy
        split at hy
        · rename_i o ho
          obtain ⟨e, he, rfl⟩ := List.mem_map.1 hy
          obtain ⟨he1, he2⟩ := List.mem_filter.1 he
          exact hQ k o ho e (Array.mem_toList_iff.1 he1) he2 (h k (by simpa using hc))
        · simp at hy
def waits (l : List Oper) (j i : Nat) : Bool := (ancL l (j + 1) [j]).contains i
/-- Operation i can't come up when k of the operations hp have been carried out: it waits for the next one of them, or the last one waits for it. -/
def never (l : List Oper) (hp : List Nat) (i k : Nat) : Bool :=
  (match hp[k]? with | some j => waits l i j && i != j | none => false) || (match k with | 0 => false | k' + 1 => match hp[k']? with | some j => waits l j i | none => false)
/-- A run in the order of the text: h operations have changed the variables so far, m will in all; hp tells which. -/
inductive HRun (P : Program) (ops : Array Oper) (Ls : Nat → Loc) (hp : List Nat) : Nat → Nat → List Oper → St → List D → Prop
  | nil (h i : Nat) (s : St) : h = hp.length → HRun P ops Ls hp h i [] s []
  | q (h i : Nat) (o : Oper) (l : List Oper) (s : St) (d : D) (ds : List D) : Guard ops s o true → hp.contains i = false → (∀ k, k ≤ hp.length → never ops.toList hp i k = true ∨ QOp P o { s with loc := Ls k } d) → dstOk o s = true →
      HRun P ops Ls hp h (i + 1) l (s.put o.dst d) ds → HRun P ops Ls hp h i (o :: l) s (d :: ds)
  | f (h i : Nat) (o : Oper) (l : List Oper) (s : St) (ds : List D) : Guard ops s o false → hp.contains i = false → dstOk o s = true → HRun P ops Ls hp h (i + 1) l (s.put o.dst (.tup [])) ds → HRun P ops Ls hp h i (o :: l) s (.tup [] :: ds)
  | x (h i : Nat) (o : Oper) (l : List Oper) (s : St) (d : D) (ds : List D) : Guard ops s o true → hp[h]? = some i → HOp P o { s with loc := Ls h } (Ls (h + 1)) d → dstOk o s = true →
      HRun P ops Ls hp (h + 1) (i + 1) l (s.put o.dst d) ds → HRun P ops Ls hp h i (o :: l) s (d :: ds)

theorem HRun.length {P : Program} {ops : Array Oper} {Ls : Nat → Loc} {hp : List Nat} {h i : Nat} {l : List Oper} {s : St} {ds : List D} (r : HRun P ops Ls hp h i l s ds) : ds.length = l.length := by
  induction r with
  | nil => rfl
  | q _ _ _ _ _ _ _ _ _ _ _ _ ih => simp [ih]
  | f _ _ _ _ _ _ _ _ _ _ ih => simp [ih]
  | x _ _ _ _ _ _ _ _ _ _ _ _ ih => simp [ih]

theorem HRun.at {P : Program} {ops : Array Oper} {Ls : Nat → Loc} {hp : List Nat} {h n : Nat} {l : List Oper} {s : St} {ds : List D} (r : HRun P ops Ls hp h n l s ds) : ∀ (i : Nat) (o : Oper), l[i]? = some o →
    ∃ si : St, si.sz = s.sz ∧ (∀ t, si.get t = wr (dstF l) (dF ds) (fun _ => true) s.get t i) ∧ dstOk o s = true ∧
      ((Guard ops si o true ∧ hp.contains (n + i) = false ∧ ∀ k, k ≤ hp.length → never ops.toList hp (n + i) k = true ∨ QOp P o { si with loc := Ls k } (dF ds i)) ∨ (Guard ops si o false ∧ hp.contains (n + i) = false ∧ dF ds i = .tup []) ∨
        (Guard ops si o true ∧ ∃ k, hp[k]? = some (n + i) ∧ HOp P o { si with loc := Ls k } (Ls (k + 1)) (dF ds i))) := by
  induction r with
  | nil h i s => intro i o h; simp at h
  | q h n o l s d ds g hn hq hd hrest ih =>
    intro i o' ho
    cases i with
    | zero =>
      simp at ho; subst ho
      exact ⟨s, rfl, fun t => by simp [wr], hd, .inl ⟨g, hn, by simpa [dF] using hq⟩⟩
    | succ i =>
      simp at ho
      obtain ⟨si, h1, h3, h4, h5⟩ := ih i o' ho
      refine ⟨si, by simpa using h1, fun t => ?_, by simpa [dstOk] using h4, ?_⟩
      · rw [h3, wr_shift l o ds d (fun _ => true) s t rfl]
      · rw [show n + (i + 1) = n + 1 + i by omega]; simpa [dF] using h5
  | f h n o l s ds g hn hd hrest ih =>
    intro i o' ho
    cases i with
    | zero =>
      simp at ho; subst ho
      exact ⟨s, rfl, fun t => by simp [wr], hd, .inr (.inl ⟨g, hn, by simp [dF]⟩)⟩
    | succ i =>
      simp at ho
      obtain ⟨si, h1, h3, h4, h5⟩ := ih i o' ho
      refine ⟨si, by simpa using h1, fun t => ?_, by simpa [dstOk] using h4, ?_⟩
      · rw [h3, wr_shift l o ds (.tup []) (fun _ => true) s t rfl]
      · rw [show n + (i + 1) = n + 1 + i by omega]; simpa [dF] using h5
  | x h n o l s d ds g hn hq hd hrest ih =>
    intro i o' ho
    cases i with
    | zero =>
      simp at ho; subst ho
      exact ⟨s, rfl, fun t => by simp [wr], hd, .inr (.inr ⟨g, h, hn, by simpa [dF] using hq⟩)⟩
    | succ i =>
      simp at ho
      obtain ⟨si, h1, h3, h4, h5⟩ := ih i o' ho
      refine ⟨si, by simpa using h1, fun t => ?_, by simpa [dstOk] using h4, ?_⟩
      · rw [h3, wr_shift l o ds d (fun _ => true) s t rfl]
      · rw [show n + (i + 1) = n + 1 + i by omega]; simpa [dF] using h5

/-- Each operation that changes variables waits for the one before it. -/
def chainOk (l : List Oper) : List Nat → Bool
  | i :: j :: r => waits l j i && chainOk l (j :: r)
  | _ => true
def doneH (listed : Array Bool) : List Nat → Nat
  | [] => 0
  | i :: r => if listed.getD i false then doneH listed r + 1 else 0
theorem doneH_le (listed : Array Bool) : ∀ hp, doneH listed hp ≤ hp.length
  | [] => Nat.le_refl _
  | i :: r => by
    have := doneH_le listed r
    simp only [doneH, List.length_cons]; split <;> omega
theorem doneH_all {listed : Array Bool} : ∀ {hp : List Nat}, (∀ i ∈ hp, listed.getD i false = true) → doneH listed hp = hp.length
  | [], _ => rfl
  | i :: r, h => by
    have ih := doneH_all (hp := r) (fun j hj => h j (List.mem_cons_of_mem _ hj))
    simp [doneH, h i (by simp), ih]
theorem doneH_other {listed : Array Bool} {i : Nat} (hi : i < listed.size) : ∀ {hp : List Nat}, i ∉ hp → doneH (listed.setIfInBounds i true) hp = doneH listed hp
  | [], _ => rfl
  | j :: r, h => by
    simp only [List.mem_cons, not_or] at h
    simp only [doneH, getD_set hi, if_neg (Ne.symm h.1), doneH_other hi h.2]
/-- Before one of them is carried out, just those before it have been. -/
theorem doneH_at {l : List Oper} {listed : Array Bool} (down : ∀ j oj, l[j]? = some oj → listed.getD j false = true → ∀ e ∈ oj.after, Region.binds .any e = true → listed.getD e.on false = true) {i : Nat} {o : Oper} (ho : l[i]? = some o) (hn : listed.getD i false = false)
    (hready : ∀ e ∈ o.after, Region.binds .any e = true → listed.getD e.on false = true) : ∀ {hp : List Nat} {k : Nat}, hp.Nodup → chainOk l hp = true → hp[k]? = some i → doneH listed hp = k
  | [], k, _, _, h => by simp at h
  | j :: r, 0, _, _, h => by
    simp at h; subst h
    simp [doneH, hn]
  | j :: r, k + 1, hnd, hc, h => by
    simp at h
    cases r with
    | nil => simp at h
    | cons j2 r =>
      simp only [chainOk, Bool.and_eq_true] at hc
      have ih := doneH_at down ho hn hready (hp := j2 :: r) (k := k) (List.nodup_cons.1 hnd).2 hc.2 h
      -- j is done: some later one is done or ready
      have hj : listed.getD j false = true := by
        have hw : j ∈ ancL l (j2 + 1) [j2] := by have := hc.1; unfold waits at this; simpa using this
        have h2 : listed.getD j2 false = true ∨ j2 = i := by
          cases k with
          | zero => simp at h; exact .inr h
          | succ k =>
            cases hc2 : listed.getD j2 false with
            | true => exact .inl rfl
            | false => simp [doneH, hc2] at ih
        have := ancL_of (l := l) (Q := fun k => listed.getD k false = true ∨ k = i) (fun k o' ho' e he hb hk => by
          rcases hk with hk | hk
          · exact .inl (down k o' ho' hk e he hb)
          · subst hk
            rw [ho] at ho'; cases ho'
            exact .inl (hready e he hb)) (j2 + 1) [j2] (by simpa using h2) j hw
        rcases this with h3 | h3
        · exact h3
        · subst h3
          exact absurd (List.mem_of_getElem? h) (by have := (List.nodup_cons.1 hnd).1; simpa using this)
      simp [doneH, hj] at ih ⊢
      omega
theorem doneH_next {listed : Array Bool} {i : Nat} (hi : i < listed.size) : ∀ {hp : List Nat} {k : Nat}, hp.Nodup → hp[k]? = some i → doneH listed hp = k → (∀ k' j, k < k' → hp[k']? = some j → listed.getD j false = false) → doneH (listed.setIfInBounds i true) hp = k + 1
  | [], k, _, h, _, _ => by simp at h
  | j :: r, 0, hd, h, _, hlater => by
    simp at h; subst h
    have : doneH (listed.setIfInBounds j true) r = 0 := by
      cases r with
      | nil => rfl
      | cons j2 r =>
        have h2 := hlater 1 j2 (by omega) (by simp)
        have hne : j2 ≠ j := fun e => by subst e; simp at hd
        simp [doneH, getD_set hi, hne, h2]
    simp [doneH, getD_set hi, this]
  | j :: r, k + 1, hd, h, hk, hlater => by
    simp at h
    have hj : listed.getD j false = true := by
      cases hc : listed.getD j false with
      | true => rfl
      | false => simp [doneH, hc] at hk
    simp only [doneH, hj, if_true] at hk
    have hne : j ≠ i := fun e => by
      subst e
      simp at hd
      exact hd.1 (List.mem_of_getElem? h)
    have ih := doneH_next hi (hp := r) (k := k) (List.nodup_cons.1 hd).2 h (by omega) (fun k' j' h1 h2 => hlater (k' + 1) j' (by omega) (by simpa using h2))
    simp [doneH, getD_set hi, hj, ih]
theorem later_not {l : List Oper} {listed : Array Bool} (down : ∀ j oj, l[j]? = some oj → listed.getD j false = true → ∀ e ∈ oj.after, Region.binds .any e = true → listed.getD e.on false = true) {i : Nat} (hn : listed.getD i false = false) : ∀ {hp : List Nat} {k : Nat}, chainOk l hp = true → hp[k]? = some i →
    ∀ k' j, k < k' → hp[k']? = some j → listed.getD j false = false
  | [], k, _, h, _, _, _, _ => by simp at h
  | j0 :: r, k + 1, hc, h, k', j, hk, hj => by
    cases k' with
    | zero => omega
    | succ k' =>
      cases r with
      | nil => simp at h
      | cons j2 r =>
        simp only [chainOk, Bool.and_eq_true] at hc
        exact later_not down hn (hp := j2 :: r) (k := k) hc.2 (by simpa using h) k' j (by omega) (by simpa using hj)
  | j0 :: r, 0, hc, h, k', j, hk, hj => by
    simp at h; subst h
    cases k' with
    | zero => omega
    | succ k' =>
      cases r with
      | nil => simp at hj
      | cons j2 r =>
        simp only [chainOk, Bool.and_eq_true] at hc
        have h2 : listed.getD j2 false = false := by
          cases hc2 : listed.getD j2 false with
          | false => rfl
          | true =>
            exfalso
            have hw : j0 ∈ ancL l (j2 + 1) [j2] := by have := hc.1; unfold waits at this; simpa using this
            have := ancL_of (l := l) (Q := fun k => listed.getD k false = true) (fun k o' ho' e he hb hk => down k o' ho' hk e he hb) (j2 + 1) [j2] (by simpa using hc2) j0 hw
            rw [hn] at this; cases this
        cases k' with
        | zero => simp at hj; subst hj; exact h2
        | succ k' => exact later_not down h2 (hp := j2 :: r) (k := 0) hc.2 (by simp) (k' + 1) j (by omega) (by simpa using hj)

theorem doneH_stop {listed : Array Bool} : ∀ {hp : List Nat} {j : Nat}, hp[doneH listed hp]? = some j → listed.getD j false = false
  | [], j, h => by simp [doneH] at h
  | i :: r, j, h => by
    cases hc : listed.getD i false with
    | false =>
      simp only [doneH, hc] at h
      simp at h; subst h; exact hc
    | true =>
      simp only [doneH, hc, if_true] at h
      exact doneH_stop (hp := r) (by simpa using h)
theorem doneH_done {listed : Array Bool} : ∀ {hp : List Nat} {k j : Nat}, k < doneH listed hp → hp[k]? = some j → listed.getD j false = true
  | [], k, j, _, h => by simp at h
  | i :: r, k, j, hk, h => by
    cases hc : listed.getD i false with
    | false => simp [doneH, hc] at hk
    | true =>
      simp only [doneH, hc, if_true] at hk
      cases k with
      | zero => simp at h; subst h; exact hc
      | succ k => exact doneH_done (hp := r) (k := k) (by omega) (by simpa using h)
theorem never_false {l : List Oper} {listed : Array Bool} {hp : List Nat} (down : ∀ j oj, l[j]? = some oj → listed.getD j false = true → ∀ e ∈ oj.after, Region.binds .any e = true → listed.getD e.on false = true) {i : Nat} {o : Oper} (ho : l[i]? = some o) (hn : listed.getD i false = false)
    (hready : ∀ e ∈ o.after, Region.binds .any e = true → listed.getD e.on false = true) (h : never l.toArray.toList hp i (doneH listed hp) = true) : False := by
  simp only [never, Bool.or_eq_true] at h
  rcases h with h | h
  · split at h
    · rename_i j hj
      have hs := doneH_stop hj
      simp only [Bool.and_eq_true] at h
      have hne := h.2
      have hw : j ∈ ancL l (i + 1) [i] := by have h := h.1; unfold waits at h; simpa using h
      have := ancL_of (l := l) (Q := fun k => listed.getD k false = true ∨ k = i) (fun k o' ho' e he hb hk => by
        rcases hk with hk | hk
        · exact .inl (down k o' ho' hk e he hb)
        · subst hk
          rw [ho] at ho'; cases ho'
          exact .inl (hready e he hb)) (i + 1) [i] (by simp) j hw
      rcases this with h3 | h3
      · rw [hs] at h3; cases h3
      · subst h3
        simp at hne
    · cases h
  · split at h
    · cases h
    · rename_i k' hk'
      split at h
      · rename_i j hj
        have hd : listed.getD j false = true := doneH_done (k := k') (by omega) hj
        have hw : i ∈ ancL l (j + 1) [j] := by unfold waits at h; simpa using h
        have := ancL_of (l := l) (Q := fun k => listed.getD k false = true) (fun k o' ho' e he hb hk => down k o' ho' hk e he hb) (j + 1) [j] (by simpa using hd) i hw
        rw [hn] at this; cases this
      · cases h

structure MidH (l : List Oper) (ds : List D) (s : St) (Ls : Nat → Loc) (hp : List Nat) (E0 : Env) (w0 : World) (listed : Array Bool) (a : Act) (w : World) : Prop where
  defers : a.defers = []
  size : a.tmps.size = s.sz
  len : listed.size = l.length
  down : ∀ j oj, l[j]? = some oj → listed.getD j false = true → ∀ e ∈ oj.after, Region.binds .any e = true → listed.getD e.on false = true
  env : ∃ E, Ev E0 w0 E w ∧ MemSim E (Ls (doneH listed hp)) w ∧ ∀ t, Rep E w (a.tmps.getD t undef) (wr (dstF l) (dF ds) (fun j => listed.getD j false) s.get t l.length)

/-- One operation that may come up now. -/
theorem midH_step {P : Program} {l : List Oper} {ds : List D} {s : St} {Ls : Nat → Loc} {hp : List Nat} (ho : orderOk l = true) (hch : chainOk l hp = true) (hnd : hp.Nodup) (hrun : HRun P l.toArray Ls hp 0 0 l s ds) {E0 : Env} {w0 : World} {listed : Array Bool} {a : Act} {w : World}
    (hm : MidH l ds s Ls hp E0 w0 listed a w) {i : Nat} (hi : i ∈ Region.ready .any l.toArray listed) {K : Act → World → Prop} {Q : Exit → Act → World → Prop}
    (hK : ∀ a' w', MidH l ds s Ls hp E0 w0 (listed.setIfInBounds i true) a' w' → K a' w') : wpOp P l.toArray Q i K a w := by
  obtain ⟨h1, h2, o, h3, h4⟩ := mem_ready hi
  simp only [List.size_toArray] at h1
  have hoi : l[i]? = some o := by simpa using h3
  have hnl : listed.getD i false = false := by
    simp only [Array.getD_eq_getD_getElem?] at h2 ⊢
    rw [Array.getElem?_eq_getElem (by rw [hm.len]; exact h1)] at h2 ⊢
    simpa using h2
  obtain ⟨si, e1, e3, e4, e5⟩ := hrun.at i o hoi
  simp only [Nat.zero_add] at e5
  have hdle := doneH_le listed hp
  obtain ⟨E, ev, hmem, hreg⟩ := hm.env
  -- what the operation looks at stands as the text has it
  have hsame : ∀ t, t ∈ o.looksAt l.toArray → wr (dstF l) (dF ds) (fun j => listed.getD j false) s.get t l.length = si.get t := by
    intro t ht
    rw [e3]
    rw [wr_above (i := i) l.length (by omega)]
    · refine wr_congr i fun j hj hd => ?_
      obtain ⟨oj, hoj⟩ : ∃ oj, l[j]? = some oj := ⟨l[j]'(by omega), by simp [show j < l.length by omega]⟩
      have hdj : oj.dst = some t := by simpa [dstF, hoj] using hd
      rcases orderOk_pair ho hoj hoi hj with hap | hed
      · exact absurd ht ((Oper.apart_spec hap).1 t hdj)
      · obtain ⟨e, he, hb, hon⟩ := edgeTo_spec hed
        show listed.getD j false = true
        rw [← hon]; exact h4 e he hb
    · intro j hj hjn hd
      by_cases hji : j = i
      · subst hji; exact hnl
      · obtain ⟨oj, hoj⟩ : ∃ oj, l[j]? = some oj := ⟨l[j], by simp [hjn]⟩
        have hdj : oj.dst = some t := by simpa [dstF, hoj] using hd
        rcases orderOk_pair ho hoi hoj (by omega) with hap | hed
        · exact absurd ht ((Oper.apart_spec hap).2.2 t hdj)
        · obtain ⟨e, he, hb, hon⟩ := edgeTo_spec hed
          cases hc : listed.getD j false with
          | false => rfl
          | true =>
            have := hm.down j oj hoj hc e he hb
            rw [hon, hnl] at this
            cases this
  -- what comes behind it
  have hafter : ∀ (a' : Act) E' w', a'.defers = [] → a'.tmps.size = s.sz → Ev E w E' w' → MemSim E' (Ls (doneH (listed.setIfInBounds i true) hp)) w' →
      (∀ t, Rep E' w' (a'.tmps.getD t undef) (if o.dst = some t then dF ds i else wr (dstF l) (dF ds) (fun j => listed.getD j false) s.get t l.length)) → MidH l ds s Ls hp E0 w0 (listed.setIfInBounds i true) a' w' := by
    intro a' E' w' hde hsi hev hme hr
    have hlt : i < listed.size := by rw [hm.len]; exact h1
    refine ⟨hde, hsi, by simpa using hm.len, ?_, E', ev.trans hev, hme, fun t => ?_⟩
    · intro j oj hoj hl e he hb
      rw [getD_set hlt] at hl ⊢
      by_cases hji : j = i
      · subst hji
        rw [hoi] at hoj; cases hoj
        have := h4 e he hb
        simp [this]
      · rw [if_neg hji] at hl
        have := hm.down j oj hoj hl e he hb
        simp [this]
    · have hx : (fun j => (listed.setIfInBounds i true).getD j false) = fun j => if j = i then true else listed.getD j false := by
        funext j; exact getD_set hlt
      rw [hx, wr_set h1]
      · have hdst : dstF l i = o.dst := by simp [dstF, hoi]
        rw [hdst]
        exact hr t
      · intro hdi j hj hjn hd
        have hdi : o.dst = some t := by simpa [dstF, hoi] using hdi
        obtain ⟨oj, hoj⟩ : ∃ oj, l[j]? = some oj := ⟨l[j], by simp [hjn]⟩
        have hdj : oj.dst = some t := by simpa [dstF, hoj] using hd
        rcases orderOk_pair ho hoi hoj hj with hap | hed
        · exact absurd hdj ((Oper.apart_spec hap).2.1 t hdi)
        · obtain ⟨e, he, hb, hon⟩ := edgeTo_spec hed
          cases hc : listed.getD j false with
          | false => rfl
          | true =>
            have := hm.down j oj hoj hc e he hb
            rw [hon, hnl] at this
            cases this
  have hput : ∀ v E' w', Ev E w E' w' → Rep E' w' v (dF ds i) → ∀ t, Rep E' w' ((a.put o.dst v).tmps.getD t undef) (if o.dst = some t then dF ds i else wr (dstF l) (dF ds) (fun j => listed.getD j false) s.get t l.length) := by
    intro v E' w' hev hr t
    by_cases ht : o.dst = some t
    · rw [if_pos ht]
      have hts : t < a.tmps.size := by rw [hm.size]; exact dstOk_spec e4 t ht
      simp only [ht, Act.put]
      simp [hts]; exact hr
    · rw [if_neg ht]
      have : (a.put o.dst v).tmps.getD t undef = a.tmps.getD t undef := by
        cases hd : o.dst with
        | none => rfl
        | some q =>
          have hne : q ≠ t := fun e => ht (by rw [hd, e])
          simp [Act.put, Array.getD_eq_getD_getElem?, Array.getElem?_setIfInBounds_ne hne]
      rw [this]; exact (hreg t).ev hev
  have hpsz : ∀ v, (a.put o.dst v).tmps.size = s.sz ∧ (a.put o.dst v).defers = [] := fun v => ⟨by have := hm.size; cases hd : o.dst <;> simpa [Act.put] using this, by cases hd : o.dst <;> simpa [Act.put, hd] using hm.defers⟩
  have hquiet : hp.contains i = false → doneH (listed.setIfInBounds i true) hp = doneH listed hp := fun h => doneH_other (by rw [hm.len]; exact h1) (by simpa using h)
  -- the guard says what it says in the text
  have hg : ∀ r, Guard l.toArray si o r → Region.wanted o (yielded l.toArray a.tmps) = r := by
    intro r g
    cases g with
    | free h => simp [Region.wanted, h]
    | blank j b t g1 g2 g3 =>
      have hrep : Rep E w (a.tmps.getD t undef) (.tup []) := by
        have := hreg t
        rwa [hsame t (mem_looksAt_guard g1 g2), g3] at this
      have h1 : ∃ vs, a.tmps.getD t undef = .tuple vs := by
        generalize a.tmps.getD t undef = v at hrep
        cases hrep with
        | tup vs _ _ _ => exact ⟨vs, rfl⟩
      obtain ⟨vs, h1⟩ := h1
      have hy : yielded l.toArray a.tmps j = none := by
        have g2' := g2
        unfold gslot at g2'
        simp only [yielded, g2', Option.bind_some]
        cases h : a.tmps[t]? with
        | none => rfl
        | some x =>
          rw [Array.getD_eq_getD_getElem?, h] at h1
          simp at h1
          rw [h1]
      simp only [Region.wanted, g1, hy]; rfl
    | asked j b b' t r g1 g2 g3 g4 =>
      have hrep : Rep E w (a.tmps.getD t undef) (.bool b') := by
        have := hreg t
        rwa [hsame t (mem_looksAt_guard g1 g2), g3] at this
      have hy : yielded l.toArray a.tmps j = some b' := by
        have h1 : a.tmps.getD t undef = .bool b' := Rep.bool_inv hrep
        have h2 : a.tmps[t]? = some (.bool b') := by
          rw [Array.getD_eq_getD_getElem?] at h1
          cases h : a.tmps[t]? with
          | none => rw [h] at h1; simp [undef] at h1
          | some x => rw [h] at h1; simp at h1; rw [h1]
        unfold gslot at g2
        simp only [yielded, g2, h2, Option.bind_some]
      simp only [Region.wanted, g1, hy]
      rw [← g4]
      cases b <;> cases b' <;> rfl
  unfold wpOp
  rw [h3]
  simp only []
  have hops : ∀ x ∈ o.op.operands, Rep E w (a.eval x) (si.ev x) := by
    intro x hx
    cases x with
    | tmp t =>
      show Rep E w (a.tmps.getD t undef) (si.get t)
      rw [← hsame t (mem_looksAt_operand hx)]
      exact hreg t
    | const v => exact rep_ofV E w v
    | global g => exact .any _
    | func f => exact .fn f #[] [] rfl (by simp)
  rcases e5 with ⟨g, hnp, hq⟩ | ⟨g, hnp, hd⟩ | ⟨g, k, hk, hh⟩
  · rw [if_pos (hg true g)]
    have hq' : QOp P o { si with loc := Ls (doneH listed hp) } (dF ds i) := by
      rcases hq (doneH listed hp) hdle with hnv | hq
      · exact (never_false hm.down hoi hnl h4 hnv).elim
      · exact hq
    refine .inl (wpMonoBoth ?_ (fun _ _ _ h => h.elim) (hq' E a w hm.defers (by rw [hm.size]; exact e1.symm) hops hmem))
    rintro a' w' ⟨v, E', ea, hr, hme, hev⟩
    subst ea
    exact hK _ _ (hafter _ E' w' (hpsz v).2 (hpsz v).1 hev (by rw [hquiet hnp]; exact hme) (hput v E' w' hev hr))
  · rw [if_neg (by rw [hg false g]; simp)]
    exact hK _ _ (hafter _ E w (hpsz undef).2 (hpsz undef).1 (Ev.refl E w) (by rw [hquiet hnp]; exact hmem) (hput undef E w (Ev.refl E w) (by rw [hd]; exact .tup #[] [] rfl (by simp))))
  · rw [if_pos (hg true g)]
    have hdk := doneH_at hm.down hoi hnl h4 hnd hch hk
    have hdn := doneH_next (by rw [hm.len]; exact h1) hnd hk hdk (later_not hm.down hnl hch hk)
    have hS1 : Sim E { sz := s.sz, get := fun t => wr (dstF l) (dF ds) (fun j => listed.getD j false) s.get t l.length, loc := Ls k } a w := ⟨hm.defers, hm.size, hreg, by rw [← hdk]; exact hmem⟩
    refine .inl (wpMonoBoth ?_ (fun _ _ _ h => h.elim) (hh { sz := s.sz, get := fun t => wr (dstF l) (dF ds) (fun j => listed.getD j false) s.get t l.length, loc := Ls k } e1.symm rfl (fun x hx => ?_) E a w hS1))
    · rintro a' w' ⟨s', E', rfl, hS', hev⟩
      refine hK _ _ (hafter a' E' w' hS'.defers (by have := hS'.size; cases hd : o.dst <;> simpa [St.put, hd] using this) hev (by rw [hdn]; have := hS'.mem; cases hd : o.dst <;> simpa [St.put, hd] using this) fun t => ?_)
      have := hS'.reg t
      rw [St.put_get] at this
      exact this
    · cases x with
      | tmp t => exact hsame t (mem_looksAt_operand hx)
      | const v => rfl
      | global g => rfl
      | func f => rfl

theorem midH_any {P : Program} {l : List Oper} {ds : List D} {s : St} {Ls : Nat → Loc} {hp : List Nat} (ho : orderOk l = true) (hch : chainOk l hp = true) (hnd : hp.Nodup) (hin : ∀ i ∈ hp, i < l.length) (hrun : HRun P l.toArray Ls hp 0 0 l s ds) {E0 : Env} {w0 : World} {Q : Exit → Act → World → Prop}
    (hQ : ∀ a w E, Sim E { runPut l ds s with loc := Ls hp.length } a w → Ev E0 w0 E w → Q .normal a w) : ∀ (fuel : Nat) (listed : Array Bool) (a : Act) (w : World), MidH l ds s Ls hp E0 w0 listed a w →
      (listed.toList.filter (fun b => !b)).length ≤ fuel → wpAny P .any l.toArray Q fuel listed a w := by
  have hend : ∀ listed a w, MidH l ds s Ls hp E0 w0 listed a w → Region.ready .any l.toArray listed = [] → Q .normal a w := by
    intro listed a w hm hr
    have hall := ready_nil ho hm.len hr
    obtain ⟨E, ev, hmem, hreg⟩ := hm.env
    have hl := runPut_loc l ds s
    refine hQ a w E ⟨hm.defers, by show _ = (runPut l ds s).sz; rw [hl.2]; exact hm.size, fun t => ?_, by rw [doneH_all (fun i hi => hall i (hin i hi))] at hmem; exact hmem⟩ ev
    show Rep E w _ ((runPut l ds s).get t)
    rw [runPut_get l ds s hrun.length t]
    rw [wr_congr (Y := fun j => listed.getD j false) l.length (fun j hj _ => (hall j hj).symm)]
    exact hreg t
  intro fuel
  induction fuel with
  | zero =>
    intro listed a w hm hf
    have hr : Region.ready .any l.toArray listed = [] := by
      cases h : Region.ready .any l.toArray listed with
      | nil => rfl
      | cons i r =>
        exfalso
        obtain ⟨h1, h2, _⟩ := mem_ready (i := i) (by rw [h]; simp)
        simp only [List.size_toArray] at h1
        have hnl : listed[i]'(by rw [hm.len]; exact h1) = false := by
          simpa [Array.getD_eq_getD_getElem?, hm.len, h1] using h2
        have : (false : Bool) ∈ listed.toList.filter (fun b => !b) := by
          refine List.mem_filter.2 ⟨?_, rfl⟩
          rw [← hnl]; exact Array.mem_toList_iff.2 (Array.getElem_mem _)
        have := List.length_pos_of_mem this
        omega
    exact ⟨hr, hend listed a w hm hr⟩
  | succ fuel ih =>
    intro listed a w hm hf
    refine ⟨hend listed a w hm, fun i hi => midH_step ho hch hnd hrun hm hi fun a' w' hm' => ih _ a' w' hm' ?_⟩
    obtain ⟨h1, h2, _⟩ := mem_ready hi
    simp only [List.size_toArray] at h1
    have hlt : i < listed.size := by rw [hm.len]; exact h1
    have hnl : listed[i] = false := by simpa [Array.getD_eq_getD_getElem?, hlt] using h2
    have key : ∀ (A : List Bool) (i : Nat) (h : i < A.length), A[i] = false → ((A.set i true).filter (fun b => !b)).length + 1 = (A.filter (fun b => !b)).length := by
      intro A
      induction A with
      | nil => intro i h; simp at h
      | cons b A ih =>
        intro i h hb
        cases i with
        | zero => simp at hb; subst hb; simp
        | succ i =>
          simp at hb h
          have := ih i h hb
          cases b <;> simp [List.set_cons_succ] <;> omega
    have := key listed.toList i (by simpa using hlt) (by simpa using hnl)
    rw [Array.toList_setIfInBounds]
    omega

theorem doneH_zero {listed : Array Bool} (h : ∀ i, listed.getD i false = false) : ∀ hp, doneH listed hp = 0
  | [] => rfl
  | i :: r => by simp only [doneH]; rw [h i]; rfl
theorem AW_region_drawH {P : Program} {id : Nat} {l : List Oper} {Q : Exit → St → Prop} {s : St} {ds : List D} (Ls : Nat → Loc) (hp : List Nat) (hm : P.follows .mixedOrders = true) (ho : orderOk l = true) (hch : chainOk l hp = true) (hnd : decide hp.Nodup = true) (hin : hp.all (fun i => decide (i < l.length)) = true) (h0 : s.loc = Ls 0)
    (hrun : HRun P l.toArray Ls hp 0 0 l s ds) (h : Q .normal { runPut l ds s with loc := Ls hp.length }) : AW P (.region id l.toArray true) Q s := by
  intro E a w hs
  refine wp_region_any hm (midH_any (E0 := E) (w0 := w) ho hch (of_decide_eq_true hnd) (fun i hi => by simpa using List.all_eq_true.1 hin i hi) hrun (fun a' w' E' hS ev => ⟨_, E', h, hS, ev⟩) _ _ a _ ?_ ?_)
  · have ev0 := Ev.sameHeap E (w := w) (w' := { w with drawn := w.drawn + 1 }) rfl rfl rfl rfl
    have hf : ∀ i, (Array.replicate l.toArray.size false).getD i false = false := fun i => by
      simp only [Array.getD_eq_getD_getElem?, Array.getElem?_replicate]
      split <;> simp
    refine ⟨hs.defers, hs.size, by simp, fun j oj _ hl => ?_, E, ev0, by rw [doneH_zero hf, ← h0]; exact hs.mem.sameHeap rfl rfl rfl rfl, fun t => ?_⟩
    · rw [hf j] at hl; cases hl
    · rw [wr_congr (Y := fun _ => false) l.length (fun j _ _ => hf j)]
      rw [wr_above (i := 0) l.length (by omega) (fun _ _ _ _ => rfl)]
      exact (hs.reg t).ev ev0
  · simp

/-- The same, operation by operation. -/
def HOps (P : Program) (ops : Array Oper) (Ls : Nat → Loc) (hp : List Nat) (h i : Nat) (l : List Oper) (K : St → Prop) (s : St) : Prop := ∃ ds, HRun P ops Ls hp h i l s ds ∧ K { runPut l ds s with loc := Ls hp.length }
section
variable {P : Program} {ops : Array Oper} {o : Oper} {l : List Oper} {K : St → Prop} {s : St} {Ls : Nat → Loc} {hp : List Nat} {h i : Nat}
theorem HOps_nil (e : h = hp.length) (k : K { s with loc := Ls hp.length }) : HOps P ops Ls hp h i [] K s := ⟨[], .nil h i s e, k⟩
theorem HOps_q {d : D} (g : Guard ops s o true) (hn : hp.contains i = false) (hq : ∀ k, k ≤ hp.length → never ops.toList hp i k = true ∨ QOp P o { s with loc := Ls k } d) (hd : dstOk o s = true) (k : HOps P ops Ls hp h (i + 1) l K (s.put o.dst d)) : HOps P ops Ls hp h i (o :: l) K s :=
  let ⟨ds, h1, h2⟩ := k; ⟨d :: ds, .q h i o l s d ds g hn hq hd h1, h2⟩
theorem HOps_f (g : Guard ops s o false) (hn : hp.contains i = false) (hd : dstOk o s = true) (k : HOps P ops Ls hp h (i + 1) l K (s.put o.dst (.tup []))) : HOps P ops Ls hp h i (o :: l) K s :=
  let ⟨ds, h1, h2⟩ := k; ⟨.tup [] :: ds, .f h i o l s ds g hn hd h1, h2⟩
theorem HOps_x {d : D} (g : Guard ops s o true) (hn : hp[h]? = some i) (hq : HOp P o { s with loc := Ls h } (Ls (h + 1)) d) (hd : dstOk o s = true) (k : HOps P ops Ls hp (h + 1) (i + 1) l K (s.put o.dst d)) : HOps P ops Ls hp h i (o :: l) K s :=
  let ⟨ds, h1, h2⟩ := k; ⟨d :: ds, .x h i o l s d ds g hn hq hd h1, h2⟩
end
theorem AW_drawH {P : Program} {id : Nat} {l : List Oper} {Q : Exit → St → Prop} {s : St} (Ls : Nat → Loc) (hp : List Nat) (hm : P.follows .mixedOrders = true) (ho : orderOk l = true) (hch : chainOk l hp = true) (hnd : decide hp.Nodup = true) (hin : hp.all (fun i => decide (i < l.length)) = true) (h0 : s.loc = Ls 0)
    (h : HOps P l.toArray Ls hp 0 0 l (Q .normal) s) : AW P (.region id l.toArray true) Q s :=
  let ⟨_, h1, h2⟩ := h; AW_region_drawH Ls hp hm ho hch hnd hin h0 h1 h2
theorem AW_seq_drawH {P : Program} {id : Nat} {l : List Oper} {y : Code} {Q : Exit → St → Prop} {s : St} (Ls : Nat → Loc) (hp : List Nat) (hm : P.follows .mixedOrders = true) (ho : orderOk l = true) (hch : chainOk l hp = true) (hnd : decide hp.Nodup = true) (hin : hp.all (fun i => decide (i < l.length)) = true) (h0 : s.loc = Ls 0)
    (h : HOps P l.toArray Ls hp 0 0 l (AW P y Q) s) : AW P (.seq (.region id l.toArray true) y) Q s :=
  AW_seq (AW_drawH Ls hp hm ho hch hnd hin h0 h)

section
variable {P : Program} {o : Oper} {s : St}
theorem dstOk_of {o : Oper} {s s1 : St} (e : s1.sz = s.sz) (h : dstOk o s = true) : dstOk o s1 = true := by
  unfold dstOk at *; rw [e]; exact h
theorem H_append {t tx es bytes : Nat} {zs : List D} {x y : Operand} {id g len m : Nat} {B : Box} {cs : List D} {L' : Loc} [ht : TRow P t es bytes zs] [TSrc P tx]
    (ho : o.op = .call { callee := .builtin .append, args := #[x, y], argTypes := #[t, tx] }) (hx : s.ev x = .row id g es len) (hB : s.loc[id]? = some (some B)) (hg : B.cells.length = g) (hlen : len * es = g) (hBes : B.es = es)
    (hy : srcD s.loc es (s.ev y) = some (m, cs)) (hfit : (len + m) * bytes ≤ 140737488355328) (hmax : len + m ≤ maxLen) (hd : dstOk o s = true) (hL : s.loc.set id (some { B with cells := B.cells ++ cs }) = L') :
    HOp P o s L' (.row id (g + m * es) es (len + m)) := by
  intro s1 e1 e2 e3
  have hxm : x ∈ o.op.operands := by simp [ho, Op.operands, Call.operands]
  have hym : y ∈ o.op.operands := by simp [ho, Op.operands, Call.operands]
  refine SOp_append ho ((e3 x hxm).trans hx) (by rw [e2]; exact hB) hg hlen hBes (by rw [e2, e3 y hym]; exact hy) hfit hmax (dstOk_of e1 hd) ?_
  rw [e2, hL]
end
section
variable {P : Program} {o : Oper} {s : St}
theorem H_lit {t es bytes len : Nat} {zs : List D} {parts : Array (Nat × Operand)} {cs : List D} {L' : Loc} [ht : TRow P t es bytes zs] (ho : o.op = .buildSlice t len parts) (h0 : decide (0 < len) = true) (hbig : decide (len * es ≤ 16777216) = true)
    (hf : fillL s.loc (fun i => some (i * es, es)) (List.replicate len zs).flatten (parts.toList.map fun p => (p.1, s.ev p.2)) = some cs) (hn : cs.length = len * es) (hd : dstOk o s = true) (hL : s.loc ++ [some ⟨es, cs⟩] = L') : HOp P o s L' (.row s.loc.length (len * es) es len) := by
  intro s1 e1 e2 e3
  have hp : (parts.toList.map fun p => (p.1, s1.ev p.2)) = parts.toList.map fun p => (p.1, s.ev p.2) := by
    refine List.map_congr_left fun p hp => ?_
    rw [e3 p.2]
    simp only [ho, Op.operands]
    exact List.mem_toArray.2 (List.mem_map.2 ⟨p, hp, rfl⟩)
  refine SOp_lit (P := P) (zs := zs) (bytes := bytes) (cs := cs) ho h0 hbig (by rw [e2, hp]; exact hf) hn (dstOk_of e1 hd) ?_
  rw [← hL, e2]
  simp [St.push, e2]
theorem H_store_w {t n : Nat} {x y : Operand} {id g : Nat} {B : Box} {cs : List D} {L' : Loc} [ht : TElm P t n true] (ho : o.op = .store t x y) (hx : s.ev x = .ptr id g 0) (hB : s.loc[id]? = some (some B)) (hg : B.cells.length = g)
    (hy : s.ev y = .agg cs) (hds : cs.all (D.one s.loc) = true) (hn : cs.length = n) (hfit : n = g) (hdst : o.dst = none) (hL : s.loc.set id (some { B with cells := cs }) = L') : HOp P o s L' (.tup []) := by
  intro s1 e1 e2 e3
  have hxm : x ∈ o.op.operands := by simp [ho, Op.operands]
  have hym : y ∈ o.op.operands := by simp [ho, Op.operands]
  refine M_store_w ho ((e3 x hxm).trans hx) (by rw [e2]; exact hB) hg ((e3 y hym).trans hy) (by rw [e2]; exact hds) hn hfit hdst ?_
  rw [e2, hL, hdst]; rfl
theorem H_store_1 {t : Nat} {x y : Operand} {id g off : Nat} {B : Box} {d : D} {cs' : List D} {L' : Loc} [ht : TElm P t 1 false] (ho : o.op = .store t x y) (hx : s.ev x = .ptr id g off) (hB : s.loc[id]? = some (some B)) (hg : B.cells.length = g)
    (hy : s.ev y = d) (hds : d.one s.loc = true) (hfit : off + 1 ≤ g) (hdst : o.dst = none) (he : splice B.cells off [d] = cs') (hL : s.loc.set id (some { B with cells := cs' }) = L') : HOp P o s L' (.tup []) := by
  intro s1 e1 e2 e3
  have hxm : x ∈ o.op.operands := by simp [ho, Op.operands]
  have hym : y ∈ o.op.operands := by simp [ho, Op.operands]
  refine M_store_e1 ho ((e3 x hxm).trans hx) (by rw [e2]; exact hB) hg ((e3 y hym).trans hy) (by rw [e2]; exact hds) hfit hdst he ?_
  rw [e2, hL, hdst]; rfl
end
end Go.Proofs.YtcgocdcbceeoiaaGreat
