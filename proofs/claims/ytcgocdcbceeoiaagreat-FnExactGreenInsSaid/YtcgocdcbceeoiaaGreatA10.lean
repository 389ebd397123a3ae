/-
  Rows of the walk's own: made, appended to, lent for good (frozen).
-/
import Derived.Test.YtcgocdcbceeoiaaGreatA9
import Derived.Laws.MakeOwn
import Derived.Deep.AppendSrc
namespace Go.Proofs.YtcgocdcbceeoiaaGreat
open Go

theorem rebox {E : Env} {L : Loc} {w w' : World} (hm : MemSim E L w) {id : Nat} {B : Box} (hB : L[id]? = some (some B)) (B' : Box) (β' : Option (Nat × Nat)) (hos : w'.os = w.os) (htape : w'.tape = w.tape) (hout : w'.output = w.output)
    (hsz : w.heap.size ≤ w'.heap.size) (hold : ∀ k, k < w.heap.size → (∀ cap, E.β id ≠ some (k, cap)) → w'.heap[k]? = w.heap[k]?)
    (hlen : B.cells.length ≤ B'.cells.length) (hsame : B.cells.length = B'.cells.length → β' = E.β id)
    (hnew : (β' = none ∧ B'.cells = [] ∧ 0 < B'.es) ∨ ∃ b cap cur t, β' = some (b, cap) ∧ ((∃ cap0, E.β id = some (b, cap0)) ∨ w.heap.size ≤ b) ∧ w'.heap[b]? = some (.cells cur t (0, 0)) ∧ B'.cells.length ≤ cur.size ∧
      (0 < B'.es → (∃ m, B'.cells.length = m * B'.es ∧ m ≤ cap) ∧ cap * B'.es ≤ cur.size ∧ cap ≤ maxLen) ∧ ∀ (i : Nat) v d, cur[i]? = some v → B'.cells[i]? = some d → Rep E w v d) :
    Ev E w { E with β := fun j => if j = id then β' else E.β j, c := fun j => if j = id then some B'.cells.length else E.c j } w' ∧
      MemSim { E with β := fun j => if j = id then β' else E.β j, c := fun j => if j = id then some B'.cells.length else E.c j } (L.set id (some B')) w' := by
  have hlt : id < L.length := (List.getElem?_eq_some_iff.1 hB).1
  have hidn : id < E.n := by rw [hm.n]; exact hlt
  have hcid : E.c id = some B.cells.length := by rw [hm.c, curOf_some hB]
  have hown : ∀ b cap, E.β id = some (b, cap) → b < w.heap.size ∧ ¬ E.S b ∧ ¬ E.F b := fun b cap h => by
    obtain ⟨⟨cur, t, h1⟩, h2, h3⟩ := ownB_heap hm ⟨id, B, cap, hB, h⟩
    exact ⟨(Array.getElem?_eq_some_iff.1 h1).1, h2, h3⟩
  have ev : Ev E w { E with β := fun j => if j = id then β' else E.β j, c := fun j => if j = id then some B'.cells.length else E.c j } w' := by
    refine ⟨hos, htape, hout, hsz, rfl, fun _ h => h, fun b hb => hold b ?_ fun cap h => ?_, fun _ h => .inl h, fun j b cap h1 h2 h3 => ?_, Nat.le_refl _, fun j hj g' hg => ?_⟩
    · rcases hb with hb | hb
      · exact hm.ltS b hb
      · exact hm.ltF b hb
    · have := hown b cap h
      rcases hb with hb | hb
      · exact this.2.1 hb
      · exact this.2.2 hb
    · by_cases e : j = id
      · subst e
        simp only [if_true] at h3
        rcases hnew with ⟨h, _⟩ | ⟨b0, cap0, cur, t, h4, h5, _⟩
        · rw [h] at h3; cases h3
        · rw [h4] at h3
          simp only [Option.some.injEq, Prod.mk.injEq] at h3
          obtain ⟨rfl, rfl⟩ := h3
          rcases h5 with ⟨c0, h5⟩ | h5
          · exact .inr ⟨j, c0, hidn, by rw [hcid]; simp, h5⟩
          · exact .inl h5
      · simp only [if_neg e] at h2 h3
        exact .inr ⟨j, cap, h1, h2, h3⟩
    · by_cases e : j = id
      · subst e
        simp only [if_true, Option.some.injEq] at hg
        subst hg
        exact ⟨_, hcid, hlen, fun he => by simp only [if_true]; exact hsame he⟩
      · simp only [if_neg e] at hg ⊢
        exact ⟨g', hg, Nat.le_refl _, fun _ => trivial⟩
  have hkey : ∀ (k : Nat) (Bk : Box), (L.set id (some B'))[k]? = some (some Bk) → k ≠ id → L[k]? = some (some Bk) := fun k Bk hk e => by
    rwa [List.getElem?_set_ne (Ne.symm e)] at hk
  have hne : ∀ (k : Nat) (Bk : Box) (b cap : Nat), k ≠ id → L[k]? = some (some Bk) → E.β k = some (b, cap) → b < w.heap.size ∧ ∀ cap', E.β id ≠ some (b, cap') := fun k Bk b cap e hk hb => by
    obtain ⟨⟨cur, t, h1⟩, _⟩ := ownB_heap hm ⟨k, Bk, cap, hk, hb⟩
    exact ⟨(Array.getElem?_eq_some_iff.1 h1).1, fun cap' h => hm.sep k id Bk B b cap cap' e hk hB hb h⟩
  refine ⟨ev, by simpa using hm.n, fun j => ?_, fun j Bj hj => ?_, fun i j Bi Bj b cb cb' hij hi hj hbi hbj => ?_, fun b h => Nat.lt_of_lt_of_le (hm.ltS b h) hsz, fun b h => Nat.lt_of_lt_of_le (hm.ltF b h) hsz⟩
  · by_cases e : j = id
    · subst e
      simp only [if_true]
      rw [curOf_some (B := B') (by rw [List.getElem?_set_self hlt])]
    · simp only [if_neg e, hm.c]
      unfold curOf
      rw [List.getElem?_set_ne (Ne.symm e)]
  · by_cases e : j = id
    · subst e
      rw [List.getElem?_set_self hlt] at hj
      simp only [Option.some.injEq] at hj
      subst hj
      rcases hnew with ⟨h1, h2, h3⟩ | ⟨b, cap, cur, t, h1, h2, h3, h4, h5, h6⟩
      · exact .inl ⟨by simp only [if_true]; exact h1, h2, h3⟩
      · refine .inr ⟨b, cap, cur, t, by simp only [if_true]; exact h1, ?_, ?_, h3, h4, h5, fun i v d g1 g2 => (h6 i v d g1 g2).ev ev⟩
        · rcases h2 with ⟨c0, h2⟩ | h2
          · exact (hown b c0 h2).2.1
          · intro h; have := hm.ltS b h; omega
        · rcases h2 with ⟨c0, h2⟩ | h2
          · exact (hown b c0 h2).2.2
          · intro h; have := hm.ltF b h; omega
    · have hj' := hkey j Bj hj e
      rcases hm.box j Bj hj' with h | ⟨b, cap, cur, t, h1, h2, h3, h4, h5, h6, h7⟩
      · exact .inl ⟨by simp only [if_neg e]; exact h.1, h.2⟩
      · have := hne j Bj b cap e hj' h1
        exact .inr ⟨b, cap, cur, t, by simp only [if_neg e]; exact h1, h2, h3, by rw [hold b this.1 this.2]; exact h4, h5, h6, fun i v d g1 g2 => (h7 i v d g1 g2).ev ev⟩
  · by_cases ei : i = id
    · subst ei
      have ej : j ≠ i := Ne.symm hij
      simp only [if_true] at hbi
      simp only [if_neg ej] at hbj
      have hj' := hkey j Bj hj ej
      have h9 := hne j Bj b cb' ej hj' hbj
      rcases hnew with ⟨h, _⟩ | ⟨b0, cap0, cur, t, h4, h5, _⟩
      · rw [h] at hbi; cases hbi
      · rw [h4] at hbi
        simp only [Option.some.injEq, Prod.mk.injEq] at hbi
        obtain ⟨rfl, rfl⟩ := hbi
        rcases h5 with ⟨c0, h5⟩ | h5
        · exact h9.2 c0 h5
        · omega
    · simp only [if_neg ei] at hbi
      have hi' := hkey i Bi hi ei
      by_cases ej : j = id
      · subst ej
        simp only [if_true] at hbj
        have h9 := hne i Bi b cb ei hi' hbi
        rcases hnew with ⟨h, _⟩ | ⟨b0, cap0, cur, t, h4, h5, _⟩
        · rw [h] at hbj; cases hbj
        · rw [h4] at hbj
          simp only [Option.some.injEq, Prod.mk.injEq] at hbj
          obtain ⟨rfl, rfl⟩ := hbj
          rcases h5 with ⟨c0, h5⟩ | h5
          · exact h9.2 c0 h5
          · omega
      · simp only [if_neg ej] at hbj
        exact hm.sep i j Bi Bj b cb cb' hij hi' (hkey j Bj hj ej) hbi hbj

/-- A slice type: cells and bytes of an element, its zero value. -/
class TRow (P : Program) (t : TypeId) (es bytes : outParam Nat) (zs : outParam (List D)) : Prop where
  out : ∃ e i z, P.underlying t = some (.slice e) ∧ P.info? e = some i ∧ i.zero = some z ∧ i.size = es ∧ 0 < es ∧ i.bytes = bytes ∧ z.cells.size = es ∧ z.cells.toList.map ofV1 = zs
def tRowB (P : Program) (t es bytes : Nat) : Option (List D) := match P.underlying t with
  | some (.slice e) => match P.info? e with
    | some i => match i.zero with
      | some z => if i.size = es ∧ 0 < es ∧ i.bytes = bytes ∧ z.cells.size = es then some (z.cells.toList.map ofV1) else none
      | none => none
    | none => none
  | _ => none
theorem tRow_of {P : Program} {t es bytes : Nat} {zs : List D} (h : tRowB P t es bytes = some zs) : TRow P t es bytes zs := by
  unfold tRowB at h
  split at h
  · rename_i e h1
    split at h
    · rename_i i h2
      split at h
      · rename_i z h3
        split at h
        · rename_i h4
          simp only [Option.some.injEq] at h
          exact ⟨e, i, z, h1, h2, h3, h4.1, h4.2.1, h4.2.2.1, h4.2.2.2, h⟩
        · cases h
      · cases h
    · cases h
  · cases h

theorem run_append_room' {P : Program} (w : World) (t tx ty e te : TypeId) (i : TypeInfo) (ht : P.underlying t = some (.slice e)) (hi : P.info? e = some i)
    (g sLen sCap : Nat) (cur : Array Value) (hg : w.heap[g]? = some (.cells cur te (0, 0)))
    (x : Value) (m : Nat) (news : List Value) (hs : Src P i.size tx x m news w) (hroom : sLen + m ≤ sCap) (hfit : sLen * i.size + news.length ≤ cur.size) :
    (Builtin.append_ #[t, tx] ty #[.slice (some ⟨g, 0, none⟩) sLen sCap, x]).run P w =
      .ok (.slice (some ⟨g, 0, none⟩) (sLen + m) sCap) (w.setRow g (cur.toList.take (sLen * i.size) ++ news ++ cur.toList.drop (sLen * i.size + news.length)).toArray) := by
  have hst := run_storeCells_at P g (sLen * i.size) te news 0 cur w hg (by simpa using hfit) hs.one
  simp only [Nat.add_zero] at hst
  rcases hs.kind with ⟨e', hk⟩ | hk <;> simp [Builtin.append_, run_underlying ht, run_underlying hk, sizeOf, typeInfo, hi, hs.len, hroom, hs.cells, Addr.add_lit, hst]

theorem run_append_none {P : Program} (w : World) (t tx ty e : TypeId) (i : TypeInfo) (ht : P.underlying t = some (.slice e)) (hi : P.info? e = some i) (base : Option Addr) (sLen sCap : Nat) (hle : sLen ≤ sCap)
    (x : Value) (hs : Src P i.size tx x 0 [] w) : (Builtin.append_ #[t, tx] ty #[.slice base sLen sCap, x]).run P w = .ok (.slice base sLen sCap) w := by
  cases base <;> rcases hs.kind with ⟨e', hk⟩ | hk <;> simp [Builtin.append_, run_underlying ht, run_underlying hk, sizeOf, typeInfo, hi, hs.len, hle, hs.cells, storeCells]

/-- What an append's second argument yields. -/
def srcD (L : Loc) (es : Nat) : D → Option (Nat × List D)
  | .emp => some (0, [])
  | .str b => if es = 1 then some (b.size, b.data.toList.map fun x => .int .u8 x.toNat) else none
  | d => match slCells L d with
    | some (es', m, cs) => if es' = es ∧ cs.all (D.one L) = true then some (m, cs) else none
    | none => none

/-- The type of an append's second argument. -/
class TSrc (P : Program) (t : TypeId) : Prop where
  out : (∃ e', P.underlying t = some (.slice e')) ∨ P.underlying t = some .string
def tSrcB (P : Program) (t : TypeId) : Bool := match P.underlying t with
  | some (.slice _) => true
  | some .string => true
  | _ => false
theorem tSrc_of {P : Program} {t : TypeId} (h : tSrcB P t = true) : TSrc P t := by
  unfold tSrcB at h
  split at h
  · rename_i e h1; exact ⟨.inl ⟨e, h1⟩⟩
  · rename_i h1; exact ⟨.inr h1⟩
  · cases h

theorem src_rep {P : Program} {E : Env} {L : Loc} {w : World} (hm : MemSim E L w) {v : Value} {d : D} (hr : Rep E w v d) {es m : Nat} {cs : List D} (hes : 0 < es) (h : srcD L es d = some (m, cs)) (tx : TypeId) [hk : TSrc P tx] :
    ∃ news, Src P es tx v m news w ∧ news.length = cs.length ∧ cs.length = m * es ∧ ∀ (j : Nat) u c, news[j]? = some u → cs[j]? = some c → Rep E w u c := by
  have slice : ∀ d', Rep E w v d' → (match slCells L d' with
      | some (es', m, cs) => if es' = es ∧ cs.all (D.one L) = true then some (m, cs) else none
      | none => none) = some (m, cs) → ∃ news, Src P es tx v m news w ∧ news.length = cs.length ∧ cs.length = m * es ∧ ∀ (j : Nat) u c, news[j]? = some u → cs[j]? = some c → Rep E w u c := by
    clear h
    intro d' hr' h
    split at h
    · rename_i es' m' cs' hsl
      split at h
      · rename_i hc
        obtain ⟨rfl, hone⟩ := hc
        simp only [Option.some.injEq, Prod.mk.injEq] at h
        obtain ⟨rfl, rfl⟩ := h
        obtain ⟨ad, b, off, cap, f, rfl, k1, k2, k3, k4⟩ := sl_rep hm hr' hsl
        have cellsAt : ∀ w' : World, w'.heap = w.heap → (Builtin.firstCells es' m' (.slice ad m' cap)).run P w' = .ok ((List.range cs'.length).map f).toArray w' := by
          intro w' hw'
          cases ad with
          | none =>
            have hcs : cs' = [] := by
              rcases Classical.em (cs' = []) with h | h
              · exact h
              · exact absurd (k3 h) (by simp)
            simp [Builtin.firstCells, hcs]
          | some ad =>
            by_cases hne : cs' = []
            · have hm0 : m' * es' = 0 := by rw [← k1, hne]; rfl
              simp [Builtin.firstCells, hm0, hne, loadCells, loadCellsFrom]
            · have := k3 hne
              simp only [Option.some.injEq] at this
              subst this
              rw [k1]
              simp only [Builtin.firstCells]
              exact run_loadCells w' _ _ f fun j hj => by
                rw [Addr.add_lit, cell_of_heap (w := w) (by rw [hw'])]
                have hjc : j < cs'.length := by rw [k1]; exact hj
                exact (k4 j cs'[j] (by simp [hjc])).1
        refine ⟨(List.range cs'.length).map f, ⟨hk.out, fun _ => rfl, cellsAt w rfl, cellsAt w.drew rfl, by simp [k1], fun u hu => ?_⟩, by simp, k1, fun j u c g1 g2 => ?_⟩
        · simp only [List.mem_map, List.mem_range] at hu
          obtain ⟨j, hj, rfl⟩ := hu
          exact one_cell hm (k4 j cs'[j] (by simp [hj])).2 ((List.all_eq_true.1 hone) _ (List.getElem_mem hj))
        · simp only [List.getElem?_map, Option.map_eq_some_iff] at g1
          obtain ⟨j', hj', rfl⟩ := g1
          have hlt := (List.getElem?_eq_some_iff.1 g2).1
          rw [List.getElem?_range hlt] at hj'
          simp only [Option.some.injEq] at hj'
          subst hj'
          exact (k4 j c g2).2
      · cases h
    · cases h
  unfold srcD at h
  split at h
  · simp only [Option.some.injEq, Prod.mk.injEq] at h
    obtain ⟨rfl, rfl⟩ := h
    cases hr with
    | emp ad =>
      refine ⟨[], ⟨hk.out, fun _ => rfl, ?_, ?_, by simp, by simp⟩, rfl, by simp, by simp⟩ <;> cases ad <;> simp [Builtin.firstCells, loadCells, loadCellsFrom]
  · rename_i b
    split at h
    · rename_i he
      subst he
      simp only [Option.some.injEq, Prod.mk.injEq] at h
      obtain ⟨rfl, rfl⟩ := h
      cases hr with
      | str =>
        refine ⟨byteCells b, ⟨hk.out, fun _ => rfl, firstCells_string b w, firstCells_string b w.drew, by rw [byteCells_length, Nat.mul_one], fun u hu => ?_⟩, by simp [byteCells], by rw [List.length_map, Array.length_toList, Nat.mul_one]; rfl, fun j u c g1 g2 => ?_⟩
        · obtain ⟨_, _, rfl⟩ := List.mem_map.1 hu; rfl
        · simp only [byteCells, List.getElem?_map, Option.map_eq_some_iff] at g1 g2
          obtain ⟨x, hx, rfl⟩ := g1
          obtain ⟨y, hy, rfl⟩ := g2
          rw [hx] at hy; cases hy; exact .int _ _
    · cases h
  · exact slice _ hr h

/-- A row that has no block yet. -/
theorem push_none {E : Env} {L : Loc} {w : World} (hm0 : MemSim E L w) (es : Nat) (hes : 0 < es) : Ev E w (E.push none 0) w ∧ MemSim (E.push none 0) (L ++ [some ⟨es, []⟩]) w := by
  have hn : E.n = L.length := hm0.n
  have ev : Ev E w (E.push none 0) w := by
    refine ⟨rfl, rfl, rfl, Nat.le_refl _, rfl, fun _ h => h, fun _ _ => rfl, fun _ h => .inl h, fun id b cap h1 h2 h3 => ?_, by simp [Env.push], fun id hi g' h => ?_⟩
    · simp only [Env.push] at h1 h2 h3
      by_cases e : id = E.n
      · rw [if_pos e] at h3; cases h3
      · rw [if_neg e] at h2 h3; exact .inr ⟨id, cap, by omega, h2, h3⟩
    · simp only [Env.push] at h ⊢
      rw [if_neg (by omega)] at h
      exact ⟨g', h, Nat.le_refl _, fun _ => by rw [if_neg (by omega)]⟩
  have hm : MemSim (E.push none 0) (L ++ [some ⟨es, []⟩]) w := by
    refine ⟨by simp [Env.push, hn], fun id => ?_, fun id B hB => ?_, fun i j Bi Bj b cb cb' hij hi hj hbi hbj => ?_, hm0.ltS, hm0.ltF⟩
    · rw [curOf_push]; simp only [Env.push, hn, hm0.c]; rfl
    · by_cases e : id = L.length
      · subst e
        simp at hB; subst hB
        exact .inl ⟨by simp [Env.push, hn], rfl, hes⟩
      · have hlt : id < L.length := by
          have := (List.getElem?_eq_some_iff.1 hB).1
          simp at this; omega
        rw [List.getElem?_append_left hlt] at hB
        have hβ : (E.push none 0).β id = E.β id := by simp [Env.push, hn, e]
        rcases hm0.box id B hB with h | ⟨b, cap, cur, t, h1, h2, h3, h4, h5, h6, h7⟩
        · exact .inl (by rw [hβ]; exact h)
        · exact .inr ⟨b, cap, cur, t, by rw [hβ]; exact h1, h2, h3, h4, h5, h6, fun i v d g1 g2 => (h7 i v d g1 g2).ev ev⟩
    · have key : ∀ k (Bk : Box) (b cb : Nat), (L ++ [some ⟨es, []⟩])[k]? = some (some Bk) → (E.push none 0).β k = some (b, cb) → L[k]? = some (some Bk) ∧ E.β k = some (b, cb) := by
        intro k Bk b cb hk hb
        simp only [Env.push] at hb
        by_cases e : k = E.n
        · rw [if_pos e] at hb; cases hb
        · rw [if_neg e] at hb
          have hlt : k < L.length := by
            have := (List.getElem?_eq_some_iff.1 hk).1
            simp at this; omega
          rw [List.getElem?_append_left hlt] at hk
          exact ⟨hk, hb⟩
      obtain ⟨h1, h2⟩ := key i Bi b cb hi hbi
      obtain ⟨h3, h4⟩ := key j Bj b cb' hj hbj
      exact hm0.sep i j Bi Bj b cb cb' hij h1 h3 h2 h4
  exact ⟨ev, hm⟩

section
variable {P : Program} {o : Oper} {s : St} {K : St → Prop}

/-- An empty slice becomes a row of the walk's own, to be appended to. -/
theorem AW_adopt {c : Code} {Q : Exit → St → Prop} (t : Tmp) (es : Nat) (hes : 0 < es) (ht : s.get t = .emp) (h : AW P c Q ((s.push ⟨es, []⟩).put (some t) (.row s.loc.length 0 es 0))) : AW P c Q s := by
  intro E a w hs
  have hn : E.n = s.loc.length := hs.mem.n
  have hr : Rep E w (a.tmps.getD t undef) .emp := ht ▸ hs.reg t
  obtain ⟨ev, hm⟩ := push_none hs.mem es hes
  have hts : a.tmps.getD t undef ≠ undef := by
    generalize a.tmps.getD t undef = v at hr
    cases hr; simp [undef]
  have hlt : t < s.sz := by
    rw [← hs.size]
    rcases Nat.lt_or_ge t a.tmps.size with h | h
    · exact h
    · exact absurd (by simp [Array.getD_eq_getD_getElem?, Array.getElem?_eq_none h]) hts
  have hS' : Sim (E.push none 0) ((s.push ⟨es, []⟩).put (some t) (.row s.loc.length 0 es 0)) a w := by
    refine ⟨hs.defers, by simpa [St.push] using hs.size, fun t' => ?_, by simpa [St.push] using hm⟩
    rw [St.put_get]
    by_cases e : t = t'
    · subst e
      rw [if_pos rfl]
      generalize a.tmps.getD t undef = v at hr
      cases hr with
      | emp ad =>
        refine .row _ _ _ _ _ (by simp [Env.push, hn]) (fun g0 hg => Nat.zero_le _) fun _ => .inl ⟨by simp [Env.push, hn], rfl, ad, rfl⟩
    · rw [if_neg (by simpa using e)]
      exact (hs.reg t').ev ev
  exact wp_mono (h (E.push none 0) a w hS') fun e a' w' ⟨s2, E2, q, hS2, ev2⟩ => ⟨s2, E2, q, hS2, ev.trans ev2⟩

/-- An append to a row of the walk's own. -/
theorem SOp_append {t tx es bytes : Nat} {zs : List D} {x y : Operand} {id g len m : Nat} {B : Box} {cs : List D} [ht : TRow P t es bytes zs] [TSrc P tx]
    (ho : o.op = .call { callee := .builtin .append, args := #[x, y], argTypes := #[t, tx] }) (hx : s.ev x = .row id g es len) (hB : s.loc[id]? = some (some B)) (hg : B.cells.length = g) (hlen : len * es = g) (hBes : B.es = es)
    (hy : srcD s.loc es (s.ev y) = some (m, cs)) (hfit : (len + m) * bytes ≤ 140737488355328) (hmax : len + m ≤ maxLen) (hd : dstOk o s = true)
    (hK : K ({ s with loc := s.loc.set id (some { B with cells := B.cells ++ cs }) }.put o.dst (.row id (g + m * es) es (len + m)))) : SOp P o K s := by
  intro E a w hs
  obtain ⟨e, i, z, t1, t2, t3, t4, t5, t6, t7, _⟩ := ht.out
  subst hBes
  have hm := hs.mem
  have hrx : Rep E w (a.eval x) (.row id g B.es len) := hx ▸ rep_ev hs.reg x
  obtain ⟨news, hsrc, hnl, hcl, hnr⟩ := src_rep (P := P) hm (rep_ev hs.reg y) t5 hy tx
  have hgl : (B.cells ++ cs).length = g + m * B.es := by rw [List.length_append, hg, hcl]
  have hcur : E.c id = some g := by rw [hm.c, curOf_some hB, hg]
  have hone : ∀ (β' : Option (Nat × Nat)) (v : Value) (w' : World), (Builtin.append_ #[t, tx] o.type #[a.eval x, a.eval y]).run P w = .ok v w' →
      Ev E w { E with β := fun j => if j = id then β' else E.β j, c := fun j => if j = id then some (B.cells ++ cs).length else E.c j } w' ∧
        MemSim { E with β := fun j => if j = id then β' else E.β j, c := fun j => if j = id then some (B.cells ++ cs).length else E.c j } (s.loc.set id (some { B with cells := B.cells ++ cs })) w' →
      ((β' = none ∧ len + m = 0 ∧ ∃ a, v = .slice a 0 0) ∨ ∃ b cap, β' = some (b, cap) ∧ v = .slice (some ⟨b, 0, none⟩) (len + m) cap ∧ len + m ≤ cap) →
      o.wp P a w (fun a' w' => ∃ s' E', K s' ∧ Sim E' s' a' w' ∧ Ev E w E' w') (fun _ _ _ => False) := by
    intro β' v w' hrun hem hv
    obtain ⟨ev, hm'⟩ := hem
    have hexec : (execOp a.eval o).run P w = .ok (.value v) w' := by
      simp only [execOp, ho, resolve, invoke, builtin, Sem.run_bind, Sem.run_pure, Result.andThen_ok, List.map_toArray, List.map_cons, List.map_nil, hrun]
    unfold Oper.wp
    rw [hexec]
    refine ⟨_, _, hK, ?_, ev⟩
    have hS0 : Sim { E with β := fun j => if j = id then β' else E.β j, c := fun j => if j = id then some (B.cells ++ cs).length else E.c j } { s with loc := s.loc.set id (some { B with cells := B.cells ++ cs }) } a w' :=
      ⟨hs.defers, hs.size, fun t => (hs.reg t).ev ev, hm'⟩
    refine hS0.put (Ev.refl _ _) hm' o.dst (dstOk_spec hd) (.row _ _ _ _ _ ?_ ?_ ?_)
    · rw [hm.n]; exact (List.getElem?_eq_some_iff.1 hB).1
    · intro g0 hg0
      simp only [if_true, Option.some.injEq] at hg0
      omega
    · intro _
      rcases hv with ⟨h1, h2, h3⟩ | ⟨b, cap, h1, h2, h3⟩
      · exact .inl ⟨by simp only [if_true]; exact h1, h2, h3⟩
      · exact .inr ⟨b, cap, by simp only [if_true]; exact h1, h2, h3⟩
  have hsrc' : Src P i.size tx (a.eval y) m news w := by rw [t4]; exact hsrc
  -- it grows: a new block
  have grow : ∀ (base : Option Addr) (cap : Nat) (olds : List Value), a.eval x = .slice base len cap → (Builtin.firstCells i.size len (.slice base len cap)).run P w.drew = .ok olds.toArray w.drew → olds.length = len * B.es → len ≤ cap →
      (∀ (j : Nat) u c, olds[j]? = some u → B.cells[j]? = some c → Rep E w u c) → cap < len + m →
      o.wp P a w (fun a' w' => ∃ s' E', K s' ∧ Sim E' s' a' w' ∧ Ev E w E' w') (fun _ _ _ => False) := by
    intro base cap olds hxv hold hol hle hor hcap
    have hgc := grownCap_ge w (len + m) cap e
    have hcm : grownCap w (len + m) cap e ≤ maxLen := grownCap_le_maxLen w (len + m) cap e hmax
    have hrun := run_append_grow_src (P := P) w t tx o.type e i z t1 t2 t3 base len cap olds hold (a.eval y) m news hsrc' hcap (by simp only [maxLen] at hmax; omega) (growslice_fits hcap (by rw [t6]; exact hfit))
    rw [← hxv] at hrun
    refine hone (some (w.heap.size, grownCap w (len + m) cap e)) _ _ hrun ?_ (.inr ⟨_, _, rfl, rfl, hgc⟩)
    have hszz : ((olds ++ news).toArray ++ Builtin.zeroCells z.cells (grownCap w (len + m) cap e - (len + m))).size = grownCap w (len + m) cap e * B.es := by
      simp only [Array.size_append, List.size_toArray, List.length_append, size_zeroCells, t7, hol, hnl, hcl]
      rw [← Nat.add_mul, ← Nat.add_mul]; congr 1; omega
    have hle2 : (len + m) * B.es ≤ grownCap w (len + m) cap e * B.es := Nat.mul_le_mul_right _ hgc
    have hle3 : (B.cells ++ cs).length = (len + m) * B.es := by rw [hgl, Nat.add_mul, hlen]
    refine rebox hm hB { B with cells := B.cells ++ cs } _ rfl rfl rfl (by simp) (fun k hk _ => heap_alloc_old w.drew _ k hk) (by simp) (fun h => ?_) (.inr ⟨w.heap.size, _, _, _, rfl, .inr (Nat.le_refl _), heap_alloc_new w.drew _, by rw [hszz]; simp only; rw [hle3]; exact hle2,
      fun _ => ⟨⟨len + m, hle3, hgc⟩, by rw [hszz]; exact Nat.le_refl _, hcm⟩, fun j u c g1 g2 => ?_⟩)
    · -- nothing was added, and yet it grew
      exfalso
      rw [hgl, hg] at h
      have h0 : m * B.es = 0 := by omega
      rcases Nat.mul_eq_zero.1 h0 with h1 | h1 <;> omega
    · simp only at g2
      have hjlt : j < (B.cells ++ cs).length := (List.getElem?_eq_some_iff.1 g2).1
      rw [Array.getElem?_append_left (by simp only [List.size_toArray, List.length_append, hol, hnl, hcl]; rw [← Nat.add_mul]; omega)] at g1
      simp only [List.getElem?_toArray] at g1
      by_cases hj : j < B.cells.length
      · rw [List.getElem?_append_left (by omega)] at g1
        rw [List.getElem?_append_left hj] at g2
        exact hor j u c g1 g2
      · rw [List.getElem?_append_right (by omega)] at g1 g2
        rw [show j - olds.length = j - B.cells.length by omega] at g1
        exact hnr _ u c g1 g2
  generalize hxv : a.eval x = vx at hrx
  cases hrx with
  | row _ _ _ _ _ k1 k2 k3 =>
    rcases k3 hcur with ⟨hβ, rfl, ad0, rfl⟩ | ⟨b, cap, hβ, rfl, hle⟩
    · have hB0 : B.cells = [] := List.eq_nil_of_length_eq_zero (by rw [hg]; omega)
      by_cases hm0 : m = 0
      · subst hm0
        have hcs : cs = [] := List.eq_nil_of_length_eq_zero (by rw [hcl]; simp)
        have hn0 : news = [] := List.eq_nil_of_length_eq_zero (by rw [hnl, hcs]; rfl)
        subst hn0
        have hrun := run_append_none (P := P) w t tx o.type e i t1 t2 ad0 0 0 (Nat.le_refl _) (a.eval y) hsrc'
        rw [← hxv] at hrun
        exact hone none _ _ hrun (rebox hm hB { B with cells := B.cells ++ cs } none rfl rfl rfl (Nat.le_refl _) (fun _ _ _ => rfl) (by simp) (fun _ => hβ.symm) (.inl ⟨rfl, by simp [hB0, hcs], t5⟩)) (.inl ⟨rfl, rfl, ad0, hxv⟩)
      · exact grow ad0 0 [] hxv (by cases ad0 <;> simp [Builtin.firstCells, loadCells, loadCellsFrom]) (by simp) (Nat.le_refl _) (by simp) (by omega)
    · -- a block of its own
      rcases hm.box id B hB with ⟨h4, _⟩ | ⟨b', cap', cur, te, h4, q2, q3, q4, q5, q6, q7⟩
      · rw [hβ] at h4; cases h4
      · rw [hβ] at h4
        simp only [Option.some.injEq, Prod.mk.injEq] at h4
        obtain ⟨rfl, rfl⟩ := h4
        obtain ⟨⟨m0, hm0, hm0c⟩, hcc, hcx⟩ := q6 t5
        by_cases hroom : len + m ≤ cap
        · have hle2 : (len + m) * B.es ≤ cap * B.es := Nat.mul_le_mul_right _ hroom
          have hfits : len * i.size + news.length ≤ cur.size := by rw [t4, hnl, hcl, ← Nat.add_mul]; omega
          have hrun := run_append_room' (P := P) w t tx o.type e te i t1 t2 b len cap cur q4 (a.eval y) m news hsrc' hroom hfits
          rw [← hxv] at hrun
          have hle3 : (B.cells ++ cs).length = (len + m) * B.es := by rw [hgl, Nat.add_mul, hlen]
          have hsz2 : (cur.toList.take (len * i.size) ++ news ++ cur.toList.drop (len * i.size + news.length)).toArray.size = cur.size := by
            simp only [List.size_toArray, List.length_append, List.length_take, List.length_drop, Array.length_toList]; omega
          refine hone (some (b, cap)) _ _ hrun (rebox hm hB { B with cells := B.cells ++ cs } _ rfl rfl rfl (by simp [World.setRow]) (fun k _ hk2 => setRow_other w b k _ (fun e => hk2 cap (e ▸ hβ))) (by simp) (fun _ => hβ.symm)
            (.inr ⟨b, cap, _, te, rfl, .inl ⟨cap, hβ⟩, setRow_heap w b cur _ te (0, 0) q4, by rw [hsz2]; simp only; rw [hle3]; omega, fun _ => ⟨⟨len + m, hle3, hroom⟩, by rw [hsz2]; exact hcc, hcx⟩, fun j u c g1 g2 => ?_⟩)) (.inr ⟨b, cap, rfl, rfl, hroom⟩)
          simp only at g2
          simp only [List.getElem?_toArray] at g1
          have hjlt : j < (B.cells ++ cs).length := (List.getElem?_eq_some_iff.1 g2).1
          rw [t4, hlen] at g1
          rw [t4, hlen] at hfits
          rw [List.getElem?_append_left (by simp only [List.length_append, List.length_take, Array.length_toList]; omega)] at g1
          by_cases hj : j < g
          · rw [List.getElem?_append_left (by simp; omega), List.getElem?_take, if_pos hj] at g1
            rw [List.getElem?_append_left (by omega)] at g2
            exact q7 j u c (by simpa using g1) g2
          · rw [List.getElem?_append_right (by simp; omega)] at g1
            rw [List.getElem?_append_right (by omega)] at g2
            simp only [List.length_take, Array.length_toList] at g1
            rw [show j - min g cur.size = j - g by omega] at g1
            rw [hg] at g2
            exact hnr _ u c g1 g2
        · have hold : (Builtin.firstCells i.size len (.slice (some ⟨b, 0, none⟩) len cap)).run P w.drew = .ok (cur.toList.take (len * B.es)).toArray w.drew := by
            refine run_firstCells_some w.drew i.size len ⟨b, 0, none⟩ len cap _ (by rw [t4]; simp; omega) fun j u hj => ?_
            rw [Addr.add_lit, Nat.zero_add]
            rw [List.getElem?_take] at hj
            split at hj
            · have e0 : w.drew.cell? ⟨b, j, none⟩ = w.cell? ⟨b, j, none⟩ := cell_of_heap rfl
              rw [e0]
              simp only [World.cell?, q4]
              simpa using hj
            · cases hj
          exact grow _ cap (cur.toList.take (len * B.es)) hxv hold (by simp; omega) hle (fun j u c g1 g2 => by
            rw [List.getElem?_take] at g1
            split at g1
            · exact q7 j u c (by simpa using g1) g2
            · cases g1) (by omega)

/-- An append to an empty slice: a row of its own. -/
theorem SOp_append_e {t tx es bytes : Nat} {zs : List D} {x y : Operand} {m : Nat} {cs : List D} [ht : TRow P t es bytes zs] [TSrc P tx]
    (ho : o.op = .call { callee := .builtin .append, args := #[x, y], argTypes := #[t, tx] }) (hx : s.ev x = .emp) (hy : srcD s.loc es (s.ev y) = some (m, cs)) (hfit : m * bytes ≤ 140737488355328) (hmax : m ≤ maxLen) (hd : dstOk o s = true)
    (hK : K ((s.push ⟨es, cs⟩).put o.dst (.row s.loc.length (m * es) es m))) : SOp P o K s := by
  intro E a w hs
  obtain ⟨e, i, z, t1, t2, t3, t4, t5, t6, t7, _⟩ := ht.out
  have hm := hs.mem
  have hrx : Rep E w (a.eval x) .emp := hx ▸ rep_ev hs.reg x
  obtain ⟨news, hsrc, hnl, hcl, hnr⟩ := src_rep (P := P) hm (rep_ev hs.reg y) t5 hy tx
  have hsrc' : Src P i.size tx (a.eval y) m news w := by rw [t4]; exact hsrc
  have hexec : ∀ v w', (Builtin.append_ #[t, tx] o.type #[a.eval x, a.eval y]).run P w = .ok v w' → (execOp a.eval o).run P w = .ok (.value v) w' := by
    intro v w' hrun
    simp only [execOp, ho, resolve, invoke, builtin, Sem.run_bind, Sem.run_pure, Result.andThen_ok, List.map_toArray, List.map_cons, List.map_nil, hrun]
  generalize hxv : a.eval x = vx at hrx
  cases hrx with
  | emp ad0 =>
    have ev0 : Ev E w E w.drew := Ev.sameHeap E rfl rfl rfl rfl
    by_cases hm0 : m = 0
    · subst hm0
      have hcs : cs = [] := List.eq_nil_of_length_eq_zero (by rw [hcl]; simp)
      have hn0 : news = [] := List.eq_nil_of_length_eq_zero (by rw [hnl, hcs]; rfl)
      subst hn0
      subst hcs
      have hrun := run_append_none (P := P) w t tx o.type e i t1 t2 ad0 0 0 (Nat.le_refl _) (a.eval y) hsrc'
      rw [← hxv] at hrun
      unfold Oper.wp
      rw [hexec _ _ hrun]
      obtain ⟨ev, hmm⟩ := push_none hm es t5
      refine ⟨_, _, hK, ?_, ev⟩
      have hS0 : Sim (E.push none 0) (s.push ⟨es, []⟩) a w := ⟨hs.defers, hs.size, fun t => (hs.reg t).ev ev, hmm⟩
      refine hS0.put (Ev.refl _ _) hmm o.dst (dstOk_spec hd) (.row _ _ _ _ _ ?_ ?_ ?_)
      · simp [Env.push, hm.n]
      · intro g0 _; omega
      · intro _; exact .inl ⟨by simp [Env.push, hm.n], rfl, ad0, hxv⟩
    · have hgc := grownCap_ge w (0 + m) 0 e
      have hcm : grownCap w (0 + m) 0 e ≤ maxLen := grownCap_le_maxLen w (0 + m) 0 e (by omega)
      have hrun := run_append_grow_src (P := P) w t tx o.type e i z t1 t2 t3 ad0 0 0 [] (by cases ad0 <;> simp [Builtin.firstCells, loadCells, loadCellsFrom]) (a.eval y) m news hsrc' (by omega) (by simp only [maxLen] at hmax; omega) (growslice_fits (by omega) (by rw [t6, Nat.zero_add]; exact hfit))
      rw [← hxv] at hrun
      simp only [Nat.zero_add] at hgc hcm hrun
      unfold Oper.wp
      rw [hexec _ _ hrun]
      have hszz : (([] ++ news).toArray ++ Builtin.zeroCells z.cells (grownCap w m 0 e - m)).size = grownCap w m 0 e * es := by
        simp only [Array.size_append, List.size_toArray, List.nil_append, size_zeroCells, t7, hnl, hcl]
        rw [← Nat.add_mul]; congr 1; omega
      have hle2 : m * es ≤ grownCap w m 0 e * es := Nat.mul_le_mul_right _ hgc
      have hmd : MemSim E s.loc w.drew := hm.sameHeap rfl rfl rfl rfl
      obtain ⟨ev, hmm⟩ := push_block hmd (([] ++ news).toArray ++ Builtin.zeroCells z.cells (grownCap w m 0 e - m)) e (grownCap w m 0 e) ⟨es, cs⟩ (by rw [hszz]; simp only; rw [hcl]; exact hle2)
        (fun _ => ⟨⟨m, hcl, hgc⟩, by rw [hszz]; exact Nat.le_refl _, hcm⟩) (fun j u c g1 g2 => by
          simp only at g2
          have hjlt : j < cs.length := (List.getElem?_eq_some_iff.1 g2).1
          rw [Array.getElem?_append_left (by simp only [List.size_toArray, List.nil_append, hnl]; omega)] at g1
          simp only [List.getElem?_toArray, List.nil_append] at g1
          exact (hnr j u c g1 g2).ev ev0)
      refine ⟨_, _, hK, ?_, ev0.trans ev⟩
      have hS0 : Sim (E.push (some (w.drew.heap.size, grownCap w m 0 e)) cs.length) (s.push ⟨es, cs⟩) a (w.drew.alloc (.cells (([] ++ news).toArray ++ Builtin.zeroCells z.cells (grownCap w m 0 e - m)) e)) :=
        ⟨hs.defers, hs.size, fun t => ((hs.reg t).ev ev0).ev ev, hmm⟩
      refine hS0.put (Ev.refl _ _) hmm o.dst (dstOk_spec hd) (.row _ _ _ _ _ ?_ ?_ ?_)
      · simp [Env.push, hm.n]
      · intro g0 hg0
        simp only [Env.push, hm.n, if_true, Option.some.injEq] at hg0
        omega
      · intro _
        exact .inr ⟨w.heap.size, grownCap w m 0 e, by simp [Env.push, hm.n], rfl, hgc⟩
end
end Go.Proofs.YtcgocdcbceeoiaaGreat
