/-
  Calls that change variables of the caller's own: these are lent by number.
-/
import Derived.Test.YtcgocdcbceeoiaaGreatA15
namespace Go.Proofs.YtcgocdcbceeoiaaGreat
open Go

mutual
/-- The same data with the walk's own variables numbered anew. -/
def D.ren (ρ : Nat → Nat) : D → D
  | .agg cs => .agg (D.renAll ρ cs)
  | .tup cs => .tup (D.renAll ρ cs)
  | .fn f cs => .fn f (D.renAll ρ cs)
  | .iface t d => .iface t (d.ren ρ)
  | .ptr id g off => .ptr (ρ id) g off
  | .ms id g off es len => .ms (ρ id) g off es len
  | .row id g es len => .row (ρ id) g es len
  | .any => .any
  | .int k n => .int k n
  | .bool b => .bool b
  | .flt k x => .flt k x
  | .str s => .str s
  | .slc es cs => .slc es cs
  | .emp => .emp
  | .sptr cs => .sptr cs
  | .nilIface => .nilIface
def D.renAll (ρ : Nat → Nat) : List D → List D
  | [] => []
  | d :: r => d.ren ρ :: D.renAll ρ r
end
theorem D.renAll_length (ρ : Nat → Nat) : ∀ l : List D, (D.renAll ρ l).length = l.length
  | [] => rfl
  | d :: r => by simp [D.renAll, D.renAll_length ρ r]
theorem D.renAll_at (ρ : Nat → Nat) : ∀ (l : List D) (i : Nat), (D.renAll ρ l)[i]? = (l[i]?).map (D.ren ρ)
  | [], i => by simp [D.renAll]
  | d :: r, 0 => by simp [D.renAll]
  | d :: r, i + 1 => by simpa [D.renAll] using D.renAll_at ρ r i

/-- How the numbers of two environments go together. -/
structure RenEnv (E0 E : Env) (ρ : Nat → Nat) (k : Nat) : Prop where
  S : E0.S = E.S
  n0 : ∀ j, j < k → j < E0.n
  n : ∀ j, j < k → ρ j < E.n
  c : ∀ j, j < k → E0.c j = E.c (ρ j)
  β : ∀ j, j < k → E0.β j = E.β (ρ j)

/-- Back: what the caller knows, as the callee is told it. -/
theorem Rep.ren_back {E0 E : Env} {ρ : Nat → Nat} {k : Nat} (h : RenEnv E0 E ρ k) {w : World} {v : Value} {d' : D} (r : Rep E w v d') : ∀ d : D, d' = d.ren ρ → d.bel k = true → Rep E0 w v d := by
  have keep : ∀ {v : Value} {d : D}, d.free = true → Rep E w v d → Rep E0 w v d := fun hf r => r.free (fun b hb => h.S ▸ hb) (fun _ _ => rfl) hf
  induction r with
  | any v => intro d e _; cases d <;> simp only [D.ren, reduceCtorEq] at e; exact .any v
  | int k n => intro d e _; cases d <;> simp only [D.ren, reduceCtorEq, D.int.injEq] at e; obtain ⟨rfl, rfl⟩ := e; exact .int _ _
  | bool b => intro d e _; cases d <;> simp only [D.ren, reduceCtorEq, D.bool.injEq] at e; subst e; exact .bool _
  | flt k b x hx => intro d e _; cases d <;> simp only [D.ren, reduceCtorEq, D.flt.injEq] at e; obtain ⟨rfl, rfl⟩ := e; exact .flt _ _ _ hx
  | str s => intro d e _; cases d <;> simp only [D.ren, reduceCtorEq, D.str.injEq] at e; subst e; exact .str _
  | agg vs ds hl _ ih =>
    intro d e hb
    cases d <;> simp only [D.ren, reduceCtorEq, D.agg.injEq] at e
    subst e
    refine .agg _ _ (by rw [hl, D.renAll_length]) fun i v d g1 g2 => ih i v (d.ren ρ) g1 (by rw [D.renAll_at, g2]; rfl) d rfl (D.belAll_at (by simpa [D.bel] using hb) g2)
  | tup vs ds hl _ ih =>
    intro d e hb
    cases d <;> simp only [D.ren, reduceCtorEq, D.tup.injEq] at e
    subst e
    refine .tup _ _ (by rw [hl, D.renAll_length]) fun i v d g1 g2 => ih i v (d.ren ρ) g1 (by rw [D.renAll_at, g2]; rfl) d rfl (D.belAll_at (by simpa [D.bel] using hb) g2)
  | slc a len cap es ds b off f h1 h2 h3 h4 h5 h6 hfr _ =>
    intro d e _
    cases d <;> simp only [D.ren, reduceCtorEq, D.slc.injEq] at e
    obtain ⟨rfl, rfl⟩ := e
    exact keep rfl (.slc a len cap _ _ b off f h1 h2 h3 h4 h5 h6 hfr)
  | emp a => intro d e _; cases d <;> simp only [D.ren, reduceCtorEq] at e; exact .emp a
  | sptr b off ds f h4 h5 h6 hfr _ =>
    intro d e _
    cases d <;> simp only [D.ren, reduceCtorEq, D.sptr.injEq] at e
    subst e
    exact keep rfl (.sptr b off _ f h4 h5 h6 hfr)
  | ptr v id g off h1 h2 h3 =>
    intro d e hb
    cases d <;> simp only [D.ren, reduceCtorEq, D.ptr.injEq] at e
    obtain ⟨rfl, rfl, rfl⟩ := e
    rename_i j
    have hj : j < k := by simpa [D.bel] using hb
    exact .ptr v j _ _ (h.n0 j hj) (fun g0 hg => h2 g0 (by rw [← h.c j hj]; exact hg)) fun hg => by rw [h.β j hj]; exact h3 (by rw [← h.c j hj]; exact hg)
  | ms v id g off es len h1 h2 h3 =>
    intro d e hb
    cases d <;> simp only [D.ren, reduceCtorEq, D.ms.injEq] at e
    obtain ⟨rfl, rfl, rfl, rfl, rfl⟩ := e
    rename_i j
    have hj : j < k := by simpa [D.bel] using hb
    exact .ms v j _ _ _ _ (h.n0 j hj) (fun g0 hg => h2 g0 (by rw [← h.c j hj]; exact hg)) fun hg => by rw [h.β j hj]; exact h3 (by rw [← h.c j hj]; exact hg)
  | row v id g es len h1 h2 h3 =>
    intro d e hb
    cases d <;> simp only [D.ren, reduceCtorEq, D.row.injEq] at e
    obtain ⟨rfl, rfl, rfl, rfl⟩ := e
    rename_i j
    have hj : j < k := by simpa [D.bel] using hb
    exact .row v j _ _ _ (h.n0 j hj) (fun g0 hg => h2 g0 (by rw [← h.c j hj]; exact hg)) fun hg => by rw [h.β j hj]; exact h3 (by rw [← h.c j hj]; exact hg)
  | fn f vs ds hl _ ih =>
    intro d e hb
    cases d <;> simp only [D.ren, reduceCtorEq, D.fn.injEq] at e
    obtain ⟨rfl, rfl⟩ := e
    refine .fn _ _ _ (by rw [hl, D.renAll_length]) fun i v d g1 g2 => ih i v (d.ren ρ) g1 (by rw [D.renAll_at, g2]; rfl) d rfl (D.belAll_at (by simpa [D.bel] using hb) g2)
  | nilIface => intro d e _; cases d <;> simp only [D.ren, reduceCtorEq] at e; exact .nilIface
  | iface t v d0 _ ih =>
    intro d e hb
    cases d <;> simp only [D.ren, reduceCtorEq, D.iface.injEq] at e
    obtain ⟨rfl, rfl⟩ := e
    exact .iface _ _ _ (ih _ rfl (by simpa [D.bel] using hb))

/-- Forth: what the callee leaves, as the caller knows it. -/
theorem Rep.ren_forth {E1 E : Env} {ρ : Nat → Nat} {k : Nat} (h : RenEnv E1 E ρ k) {w : World} {v : Value} {d : D} (r : Rep E1 w v d) : d.bel k = true → Rep E w v (d.ren ρ) := by
  have keep : ∀ {v : Value} {d : D}, d.free = true → Rep E1 w v d → Rep E w v d := fun hf r => r.free (fun b hb => h.S ▸ hb) (fun _ _ => rfl) hf
  induction r with
  | any v => intro _; exact .any v
  | int k n => intro _; exact .int _ _
  | bool b => intro _; exact .bool _
  | flt k b x hx => intro _; exact .flt _ _ _ hx
  | str s => intro _; exact .str _
  | agg vs ds hl _ ih =>
    intro hb
    refine .agg _ _ (by rw [hl, D.renAll_length]) fun i v d g1 g2 => ?_
    rw [D.renAll_at] at g2
    obtain ⟨c, hc, rfl⟩ := Option.map_eq_some_iff.1 g2
    exact ih i v c g1 hc (D.belAll_at (by simpa [D.bel] using hb) hc)
  | tup vs ds hl _ ih =>
    intro hb
    refine .tup _ _ (by rw [hl, D.renAll_length]) fun i v d g1 g2 => ?_
    rw [D.renAll_at] at g2
    obtain ⟨c, hc, rfl⟩ := Option.map_eq_some_iff.1 g2
    exact ih i v c g1 hc (D.belAll_at (by simpa [D.bel] using hb) hc)
  | slc a len cap es ds b off f h1 h2 h3 h4 h5 h6 hfr _ => intro _; exact keep rfl (.slc a len cap _ _ b off f h1 h2 h3 h4 h5 h6 hfr)
  | emp a => intro _; exact .emp a
  | sptr b off ds f h4 h5 h6 hfr _ => intro _; exact keep rfl (.sptr b off _ f h4 h5 h6 hfr)
  | ptr v id g off h1 h2 h3 =>
    intro hb
    have hj : id < k := by simpa [D.bel] using hb
    exact .ptr v _ _ _ (h.n id hj) (fun g0 hg => h2 g0 (by rw [h.c id hj]; exact hg)) fun hg => by rw [← h.β id hj]; exact h3 (by rw [h.c id hj]; exact hg)
  | ms v id g off es len h1 h2 h3 =>
    intro hb
    have hj : id < k := by simpa [D.bel] using hb
    exact .ms v _ _ _ _ _ (h.n id hj) (fun g0 hg => h2 g0 (by rw [h.c id hj]; exact hg)) fun hg => by rw [← h.β id hj]; exact h3 (by rw [h.c id hj]; exact hg)
  | row v id g es len h1 h2 h3 =>
    intro hb
    have hj : id < k := by simpa [D.bel] using hb
    exact .row v _ _ _ _ (h.n id hj) (fun g0 hg => h2 g0 (by rw [h.c id hj]; exact hg)) fun hg => by rw [← h.β id hj]; exact h3 (by rw [h.c id hj]; exact hg)
  | fn f vs ds hl _ ih =>
    intro hb
    refine .fn _ _ _ (by rw [hl, D.renAll_length]) fun i v d g1 g2 => ?_
    rw [D.renAll_at] at g2
    obtain ⟨c, hc, rfl⟩ := Option.map_eq_some_iff.1 g2
    exact ih i v c g1 hc (D.belAll_at (by simpa [D.bel] using hb) hc)
  | nilIface => intro _; exact .nilIface
  | iface t v d0 _ ih => intro hb; exact .iface _ _ _ (ih (by simpa [D.bel] using hb))

/-- A contract that changes what it is lent: the variables as they are behind the call, and the result. -/
def Turns (P : Program) (f : FuncId) (L0 : Loc) (ds : List D) (L1 : Loc) (r : D) : Prop := SCall P f L0 ds fun L d => L.take L1.length = L1 ∧ d = r

def renBox (ρ : Nat → Nat) : Option Box → Option Box := Option.map fun B => ⟨B.es, D.renAll ρ B.cells⟩
/-- The caller's variables behind the call. -/
def mergeL (ρ : Nat → Nat) : Loc → List Nat → Loc → Loc
  | L, id :: ids, B :: L1 => mergeL ρ (L.set id (renBox ρ B)) ids L1
  | L, _, _ => L
theorem mergeL_length (ρ : Nat → Nat) : ∀ (ids : List Nat) (L L1 : Loc), (mergeL ρ L ids L1).length = L.length
  | [], L, L1 => by cases L1 <;> rfl
  | id :: ids, L, [] => rfl
  | id :: ids, L, B :: L1 => by simp [mergeL, mergeL_length ρ ids]
theorem mergeL_other (ρ : Nat → Nat) : ∀ (ids : List Nat) (L L1 : Loc) (i : Nat), i ∉ ids → (mergeL ρ L ids L1)[i]? = L[i]?
  | [], L, L1, i, _ => by cases L1 <;> rfl
  | id :: ids, L, [], i, _ => rfl
  | id :: ids, L, B :: L1, i, h => by
    simp only [List.mem_cons, not_or] at h
    rw [mergeL, mergeL_other ρ ids _ L1 i h.2, List.getElem?_set_ne (Ne.symm h.1)]
theorem mergeL_at (ρ : Nat → Nat) : ∀ (ids : List Nat) (L L1 : Loc) (j i : Nat) (B : Option Box), ids.Nodup → (∀ i ∈ ids, i < L.length) → ids[j]? = some i → L1[j]? = some B → (mergeL ρ L ids L1)[i]? = some (renBox ρ B)
  | [], L, L1, j, i, B, _, _, h, _ => by simp at h
  | id :: ids, L, [], j, i, B, _, _, _, h => by simp at h
  | id :: ids, L, C :: L1, 0, i, B, hn, hl, h1, h2 => by
    simp at h1 h2
    subst h1; subst h2
    rw [mergeL, mergeL_other ρ ids _ L1 id (List.nodup_cons.1 hn).1, List.getElem?_set_self (hl id (by simp))]
  | id :: ids, L, C :: L1, j + 1, i, B, hn, hl, h1, h2 => by
    simp at h1 h2
    rw [mergeL]
    exact mergeL_at ρ ids _ L1 j i B (List.nodup_cons.1 hn).2 (fun i hi => by simpa using hl i (by simp [hi])) h1 h2

def idx (ids : List Nat) (i : Nat) : Option Nat := ids.findIdx? (· == i)
theorem idx_some {ids : List Nat} {i j : Nat} (h : idx ids i = some j) : ids[j]? = some i := by
  obtain ⟨h1, h2, _⟩ := List.findIdx?_eq_some_iff_getElem.1 h
  rw [List.getElem?_eq_getElem h1]
  simpa using h2
theorem idx_of {ids : List Nat} (hn : ids.Nodup) {i j : Nat} (h : ids[j]? = some i) : idx ids i = some j := by
  obtain ⟨h1, h2⟩ := List.getElem?_eq_some_iff.1 h
  refine List.findIdx?_eq_some_iff_getElem.2 ⟨h1, by simpa using h2, fun m hm => ?_⟩
  simp only [beq_iff_eq]
  intro e
  rw [← h2] at e
  exact List.pairwise_iff_getElem.1 hn m j (by omega) h1 hm e
theorem idx_none {ids : List Nat} {i : Nat} (h : idx ids i = none) : i ∉ ids := by
  intro hi
  have := List.findIdx?_eq_none_iff.1 h i hi
  simp at this
theorem idx_not {ids : List Nat} {i : Nat} (h : i ∉ ids) : idx ids i = none := by
  refine List.findIdx?_eq_none_iff.2 fun x hx => ?_
  simp only [beq_eq_false_iff_ne]
  intro e; subst e; exact h hx

def midEnv (E : Env) (L : Loc) (ids : List Nat) (L0 : Loc) : Env :=
  { S := E.S, F := fun b => E.F b ∨ ∃ i B cap, i ∉ ids ∧ L[i]? = some (some B) ∧ E.β i = some (b, cap), n := L0.length, β := fun j => (ids[j]?).bind E.β, c := curOf L0 }
def endEnv (E E1 : Env) (ids : List Nat) : Env :=
  { S := E1.S, F := E.F, n := E.n, β := fun i => match idx ids i with | some j => E1.β j | none => E.β i, c := fun i => match idx ids i with | some j => E1.c j | none => E.c i }

/-- How what is lent lies in the caller's variables. -/
structure Lent (L : Loc) (ids : List Nat) (L0 : Loc) : Prop where
  nodup : ids.Nodup
  len : ids.length = L0.length
  at_ : ∀ (j i : Nat) (B : Option Box), ids[j]? = some i → L0[j]? = some B → ∃ B0, B = some B0 ∧ D.belAll L0.length B0.cells = true ∧ L[i]? = some (renBox (fun j => ids.getD j 0) B)

theorem Lent.get {L : Loc} {ids : List Nat} {L0 : Loc} (h : Lent L ids L0) {j : Nat} (hj : j < L0.length) : ∃ i B0, ids[j]? = some i ∧ ids.getD j 0 = i ∧ L0[j]? = some (some B0) ∧ D.belAll L0.length B0.cells = true ∧ L[i]? = some (some ⟨B0.es, D.renAll (fun j => ids.getD j 0) B0.cells⟩) := by
  have h1 : ids[j]? = some (ids[j]'(by rw [h.len]; exact hj)) := List.getElem?_eq_getElem _
  obtain ⟨B0, e, hb, hL⟩ := h.at_ j _ _ h1 (List.getElem?_eq_getElem hj)
  exact ⟨_, B0, h1, by simp [List.getD, h1], by rw [List.getElem?_eq_getElem hj, e], hb, by rw [hL, e]; rfl⟩
theorem mid_ren {E : Env} {L : Loc} {w : World} (hm : MemSim E L w) {ids : List Nat} {L0 : Loc} (hl : Lent L ids L0) : RenEnv (midEnv E L ids L0) E (fun j => ids.getD j 0) L0.length := by
  refine ⟨rfl, fun j hj => hj, fun j hj => ?_, fun j hj => ?_, fun j hj => ?_⟩
  · obtain ⟨i, B0, _, h2, _, _, h4⟩ := hl.get hj
    rw [h2, hm.n]; exact (List.getElem?_eq_some_iff.1 h4).1
  · obtain ⟨i, B0, _, h2, h3, _, h4⟩ := hl.get hj
    rw [h2, hm.c, curOf_some h4]
    show curOf L0 j = _
    rw [curOf_some h3]
    simp [D.renAll_length]
  · obtain ⟨i, B0, h1, h2, _, _, _⟩ := hl.get hj
    simp only [midEnv, h1, h2, Option.bind_some]
theorem mid_memSim {E : Env} {L : Loc} {w : World} (hm : MemSim E L w) {ids : List Nat} {L0 : Loc} (hl : Lent L ids L0) : MemSim (midEnv E L ids L0) L0 w := by
  have hr := mid_ren hm hl
  refine ⟨rfl, fun _ => rfl, fun j B hB => ?_, fun j1 j2 B1 B2 b cb cb' hne h1 h2 hb1 hb2 => ?_, hm.ltS, fun b h => ?_⟩
  · have hj := (List.getElem?_eq_some_iff.1 hB).1
    obtain ⟨i, B0, g1, g2, g3, gb, g4⟩ := hl.get hj
    rw [hB] at g3
    cases g3
    rcases hm.box i _ g4 with ⟨h1, h2, h3⟩ | ⟨b, cap, cur, t, h1, h2, h3, h4, h5, h6, h7⟩
    · refine .inl ⟨by simp only [midEnv, g1, Option.bind_some]; exact h1, ?_, h3⟩
      have := congrArg List.length h2
      simp only [D.renAll_length, List.length_nil] at this
      exact List.eq_nil_of_length_eq_zero this
    · simp only [D.renAll_length] at h5 h6
      refine .inr ⟨b, cap, cur, t, by simp only [midEnv, g1, Option.bind_some]; exact h1, h2, fun h => ?_, h4, h5, h6, fun n v d g5 g6 => ?_⟩
      · rcases h with h | ⟨i', B', cap', q1, q2, q3⟩
        · exact h3 h
        · have hmem : i ∈ ids := List.mem_of_getElem? g1
          exact hm.sep i i' _ B' b cap cap' (fun e => q1 (e ▸ hmem)) g4 q2 h1 q3
      · have := h7 n v (d.ren fun j => ids.getD j 0) g5 (by rw [D.renAll_at, g6]; rfl)
        exact this.ren_back hr d rfl (D.belAll_at gb g6)
  · obtain ⟨i1, C1, a1, _, _, _, a4⟩ := hl.get (List.getElem?_eq_some_iff.1 h1).1
    obtain ⟨i2, C2, c1, _, _, _, c4⟩ := hl.get (List.getElem?_eq_some_iff.1 h2).1
    simp only [midEnv, a1, c1, Option.bind_some] at hb1 hb2
    refine hm.sep i1 i2 _ _ b cb cb' (fun e => hne ?_) a4 c4 hb1 hb2
    have e1 := idx_of hl.nodup a1
    have e2 := idx_of hl.nodup c1
    rw [e] at e1
    rw [e1] at e2
    exact Option.some.inj e2
  · rcases h with h | ⟨i', B', cap', _, q2, q3⟩
    · exact hm.ltF b h
    · obtain ⟨⟨cur, t, h1⟩, _⟩ := ownB_heap hm ⟨i', B', cap', q2, q3⟩
      exact (Array.getElem?_eq_some_iff.1 h1).1

/-- What the callee may leave: variables that name only what was lent. -/
def leftOk (k : Nat) : Loc → Bool
  | [] => true
  | some B :: L => D.belAll k B.cells && leftOk k L
  | none :: _ => false
theorem leftOk_at {k : Nat} : ∀ {L : Loc} (_ : leftOk k L = true) {j : Nat} {B : Option Box} (_ : L[j]? = some B), ∃ B', B = some B' ∧ D.belAll k B'.cells = true
  | some C :: L, h, 0, B, hB => by
    simp only [leftOk, Bool.and_eq_true] at h
    simp at hB; subst hB; exact ⟨C, rfl, h.1⟩
  | some C :: L, h, j + 1, B, hB => by
    simp only [leftOk, Bool.and_eq_true] at h
    exact leftOk_at h.2 (j := j) (by simpa using hB)
  | none :: L, h, _, _, _ => by cases h
  | [], _, j, B, hB => by simp at hB

theorem end_ren {E : Env} {L : Loc} {w : World} (hm : MemSim E L w) {ids : List Nat} {L0 : Loc} (hl : Lent L ids L0) {E1 : Env} (hn : L0.length ≤ E1.n) : RenEnv E1 (endEnv E E1 ids) (fun j => ids.getD j 0) L0.length := by
  refine ⟨rfl, fun j hj => by omega, (mid_ren hm hl).n, fun j hj => ?_, fun j hj => ?_⟩
  · obtain ⟨i, _, h1, h2, _⟩ := hl.get hj
    simp only [endEnv, h2, idx_of hl.nodup h1]
  · obtain ⟨i, _, h1, h2, _⟩ := hl.get hj
    simp only [endEnv, h2, idx_of hl.nodup h1]
theorem end_ev {E : Env} {L : Loc} {w w' : World} (hm : MemSim E L w) {ids : List Nat} {L0 : Loc} (hl : Lent L ids L0) {E1 : Env} (ev : Ev (midEnv E L ids L0) w E1 w') : Ev E w (endEnv E E1 ids) w' := by
  have hr := mid_ren hm hl
  have own : ∀ b j cap, j < L0.length → (midEnv E L ids L0).c j ≠ none → (midEnv E L ids L0).β j = some (b, cap) → ∃ id cap, id < E.n ∧ E.c id ≠ none ∧ E.β id = some (b, cap) := fun b j cap hj hc hβ =>
    ⟨ids.getD j 0, cap, hr.n j hj, by rw [← hr.c j hj]; exact hc, by rw [← hr.β j hj]; exact hβ⟩
  have jlt : ∀ {i j : Nat}, idx ids i = some j → j < L0.length := fun h => by rw [← hl.len]; exact (List.getElem?_eq_some_iff.1 (idx_some h)).1
  refine ⟨ev.os, ev.tape, ev.output, ev.size, rfl, ev.S, fun b hb => ev.heap b (hb.imp id .inl), fun b hb => ?_, fun i b cap h1 h2 h3 => ?_, Nat.le_refl _, fun i hi g' hg => ?_⟩
  · rcases ev.newS b hb with h | h | ⟨j, cap, h1, h2, h3⟩
    · exact .inl h
    · exact .inr (.inl h)
    · exact .inr (.inr (own b j cap h1 h2 h3))
  · simp only [endEnv] at h1 h2 h3
    cases hx : idx ids i with
    | none => rw [hx] at h2 h3; exact .inr ⟨i, cap, h1, h2, h3⟩
    | some j =>
      rw [hx] at h2 h3
      rcases ev.newβ j b cap (Nat.lt_of_lt_of_le (jlt hx) ev.n) h2 h3 with h | ⟨j', cap', q1, q2, q3⟩
      · exact .inl h
      · exact .inr (own b j' cap' q1 q2 q3)
  · simp only [endEnv] at hg ⊢
    cases hx : idx ids i with
    | none => rw [hx] at hg; exact ⟨g', hg, Nat.le_refl _, fun _ => rfl⟩
    | some j =>
      rw [hx] at hg
      have hj := jlt hx
      obtain ⟨g, q1, q2, q3⟩ := ev.live j hj g' hg
      have e := idx_some hx
      have e2 : ids.getD j 0 = i := by simp [List.getD, e]
      refine ⟨g, ?_, q2, fun eg => ?_⟩
      · rw [← e2, ← hr.c j hj]; exact q1
      · simp only
        rw [q3 eg, hr.β j hj, e2]
theorem end_memSim {E : Env} {L : Loc} {w w' : World} (hm : MemSim E L w) {ids : List Nat} {L0 : Loc} (hl : Lent L ids L0) {E1 : Env} {LL L1 : Loc} (ev : Ev (midEnv E L ids L0) w E1 w') (hm1 : MemSim E1 LL w')
    (hL1 : LL.take L1.length = L1) (hlen : L1.length = L0.length) (hok : leftOk L0.length L1 = true) : MemSim (endEnv E E1 ids) (mergeL (fun j => ids.getD j 0) L ids L1) w' := by
  have ev' := end_ev hm hl ev
  have hr1 := end_ren hm hl (E1 := E1) (Nat.le_trans (Nat.le_refl _) ev.n)
  have hr := mid_ren hm hl
  have hids : ∀ i ∈ ids, i < L.length := fun i hi => by
    obtain ⟨j, hj⟩ := List.getElem?_of_mem hi
    have hj' : j < L0.length := by rw [← hl.len]; exact (List.getElem?_eq_some_iff.1 hj).1
    obtain ⟨i', B0, g1, _, _, _, g4⟩ := hl.get hj'
    rw [hj] at g1; cases g1
    exact (List.getElem?_eq_some_iff.1 g4).1
  have hpre : ∀ j, j < L0.length → LL[j]? = L1[j]? := fun j hj => by
    conv => rhs; rw [← hL1]
    rw [List.getElem?_take, if_pos (by omega)]
  -- what is lent, behind the call
  have lent : ∀ {i j : Nat}, idx ids i = some j → ∃ B', LL[j]? = some (some B') ∧ D.belAll L0.length B'.cells = true ∧ (mergeL (fun j => ids.getD j 0) L ids L1)[i]? = some (some ⟨B'.es, D.renAll (fun j => ids.getD j 0) B'.cells⟩) := fun {i j} hx => by
    have e := idx_some hx
    have hj : j < L0.length := by rw [← hl.len]; exact (List.getElem?_eq_some_iff.1 e).1
    have h1 : L1[j]? = some (L1[j]'(by omega)) := List.getElem?_eq_getElem _
    obtain ⟨B', e1, hb⟩ := leftOk_at hok h1
    refine ⟨B', by rw [hpre j hj, h1, e1], hb, ?_⟩
    rw [mergeL_at _ ids L L1 j i _ hl.nodup hids e h1, e1]; rfl
  have other : ∀ {i : Nat}, idx ids i = none → (mergeL (fun j => ids.getD j 0) L ids L1)[i]? = L[i]? := fun h => mergeL_other _ ids L L1 _ (idx_none h)
  -- a block of a variable that is not lent is none of the callee's
  have apart : ∀ {i j : Nat} {B : Box} {b cap cap' : Nat}, idx ids i = none → L[i]? = some (some B) → E.β i = some (b, cap) → j < L0.length → (midEnv E L ids L0).β j = some (b, cap') → False := fun {i j B b cap cap'} hx hB hβ hj hb => by
    obtain ⟨i', B0, g1, g2, _, _, g4⟩ := hl.get hj
    rw [hr.β j hj, g2] at hb
    exact hm.sep i i' B _ b cap cap' (fun e => idx_none hx (e ▸ List.mem_of_getElem? g1)) hB g4 hβ hb
  refine ⟨by rw [mergeL_length]; exact hm.n, fun i => ?_, fun i B hB => ?_, fun i1 i2 B1 B2 b cb cb' hne h1 h2 hb1 hb2 => ?_, hm1.ltS, fun b h => Nat.lt_of_lt_of_le (hm.ltF b h) ev.size⟩
  · cases hx : idx ids i with
    | none =>
      simp only [endEnv, hx, hm.c]
      unfold curOf; rw [other hx]
    | some j =>
      obtain ⟨B', h1, _, h3⟩ := lent hx
      simp only [endEnv, hx, hm1.c]
      rw [curOf_some h1, curOf_some h3]
      simp [D.renAll_length]
  · cases hx : idx ids i with
    | none =>
      rw [other hx] at hB
      rcases hm.box i B hB with h | ⟨b, cap, cur, t, h1, h2, h3, h4, h5, h6, h7⟩
      · exact .inl ⟨by simp only [endEnv, hx]; exact h.1, h.2⟩
      · refine .inr ⟨b, cap, cur, t, by simp only [endEnv, hx]; exact h1, fun h => ?_, h3, ?_, h5, h6, fun n v d g1 g2 => (h7 n v d g1 g2).ev ev'⟩
        · rcases ev.newS b h with h | h | ⟨j, cap', q1, _, q3⟩
          · exact h2 h
          · have := (Array.getElem?_eq_some_iff.1 h4).1; omega
          · exact apart hx hB h1 q1 q3
        · rw [ev.heap b (.inr (.inr ⟨i, B, cap, idx_none hx, hB, h1⟩))]; exact h4
    | some j =>
      obtain ⟨B', h1, hb, h3⟩ := lent hx
      rw [h3] at hB
      cases hB
      rcases hm1.box j B' h1 with ⟨q1, q2, q3⟩ | ⟨b, cap, cur, t, q1, q2, q3, q4, q5, q6, q7⟩
      · exact .inl ⟨by simp only [endEnv, hx]; exact q1, by simp only [q2]; rfl, q3⟩
      · refine .inr ⟨b, cap, cur, t, by simp only [endEnv, hx]; exact q1, q2, fun h => q3 (by rw [ev.F]; exact .inl h), q4, by simpa [D.renAll_length] using q5, by simpa [D.renAll_length] using q6, fun n v d g1 g2 => ?_⟩
        simp only [D.renAll_at] at g2
        obtain ⟨c, hc, rfl⟩ := Option.map_eq_some_iff.1 g2
        exact (q7 n v c g1 hc).ren_forth hr1 (D.belAll_at hb hc)
  · have mixed : ∀ {i i' j : Nat} {B : Box} {b cap cap' : Nat}, idx ids i = none → L[i]? = some (some B) → E.β i = some (b, cap) → idx ids i' = some j → E1.c j ≠ none → E1.β j = some (b, cap') → False := fun {i i' j B b cap cap'} hx hB hβ hy hc hb => by
      have hj : j < L0.length := by rw [← hl.len]; exact (List.getElem?_eq_some_iff.1 (idx_some hy)).1
      rcases ev.newβ j b cap' (Nat.lt_of_lt_of_le hj ev.n) hc hb with h | ⟨j', c2, q1, _, q3⟩
      · obtain ⟨⟨cur, t, h1⟩, _⟩ := ownB_heap hm ⟨i, B, cap, hB, hβ⟩
        have := (Array.getElem?_eq_some_iff.1 h1).1
        omega
      · exact apart hx hB hβ q1 q3
    cases hx1 : idx ids i1 with
    | none =>
      rw [other hx1] at h1
      simp only [endEnv, hx1] at hb1
      cases hx2 : idx ids i2 with
      | none =>
        rw [other hx2] at h2
        simp only [endEnv, hx2] at hb2
        exact hm.sep i1 i2 B1 B2 b cb cb' hne h1 h2 hb1 hb2
      | some j2 =>
        simp only [endEnv, hx2] at hb2
        obtain ⟨B', g1, _, _⟩ := lent hx2
        exact mixed hx1 h1 hb1 hx2 (by rw [hm1.c, curOf_some g1]; simp) hb2
    | some j1 =>
      simp only [endEnv, hx1] at hb1
      obtain ⟨B', g1, _, _⟩ := lent hx1
      cases hx2 : idx ids i2 with
      | none =>
        rw [other hx2] at h2
        simp only [endEnv, hx2] at hb2
        exact mixed hx2 h2 hb2 hx1 (by rw [hm1.c, curOf_some g1]; simp) hb1
      | some j2 =>
        simp only [endEnv, hx2] at hb2
        obtain ⟨B2', g2, _, _⟩ := lent hx2
        refine hm1.sep j1 j2 B' B2' b cb cb' (fun e => hne ?_) g1 g2 hb1 hb2
        have e1 := idx_some hx1
        have e2 := idx_some hx2
        rw [e] at e1
        rw [e1] at e2
        exact Option.some.inj e2

theorem ren_free (ρ : Nat → Nat) : ∀ d : D, d.free = true → d.ren ρ = d
  | .agg cs, h => by simp only [D.ren]; rw [renAll_free ρ cs (by simpa [D.free] using h)]
  | .tup cs, h => by simp only [D.ren]; rw [renAll_free ρ cs (by simpa [D.free] using h)]
  | .fn f cs, h => by simp only [D.ren]; rw [renAll_free ρ cs (by simpa [D.free] using h)]
  | .iface t d, h => by simp only [D.ren]; rw [ren_free ρ d (by simpa [D.free] using h)]
  | .ptr .., h => by simp [D.free] at h
  | .ms .., h => by simp [D.free] at h
  | .row .., h => by simp [D.free] at h
  | .any, _ | .int .., _ | .bool _, _ | .flt .., _ | .str _, _ | .slc .., _ | .emp, _ | .sptr _, _ | .nilIface, _ => rfl
where renAll_free (ρ : Nat → Nat) : ∀ l : List D, D.freeAll l = true → D.renAll ρ l = l
  | [], _ => rfl
  | d :: r, h => by
    simp only [D.freeAll, Bool.and_eq_true] at h
    simp only [D.renAll]
    rw [ren_free ρ d h.1, renAll_free ρ r h.2]

/-- What is lent, variable by variable. -/
def LentP (L : Loc) (k : Nat) (ρ : Nat → Nat) : List Nat → Loc → Prop
  | [], [] => True
  | i :: ids, some B :: L0 => D.belAll k B.cells = true ∧ L[i]? = some (some ⟨B.es, D.renAll ρ B.cells⟩) ∧ LentP L k ρ ids L0
  | _, _ => False
theorem lentP_at {L : Loc} {k : Nat} {ρ : Nat → Nat} : ∀ {ids : List Nat} {L0 : Loc}, LentP L k ρ ids L0 → ids.length = L0.length ∧ ∀ (j i : Nat) (B : Option Box), ids[j]? = some i → L0[j]? = some B → ∃ B0, B = some B0 ∧ D.belAll k B0.cells = true ∧ L[i]? = some (renBox ρ B)
  | [], [], _ => ⟨rfl, by simp⟩
  | i :: ids, some C :: L0, h => by
    obtain ⟨h1, h2, h3⟩ := h
    have ih := lentP_at h3
    refine ⟨by simp [ih.1], fun j i' B a b => ?_⟩
    cases j with
    | zero => simp at a b; subst a; subst b; exact ⟨C, rfl, h1, h2⟩
    | succ j => exact ih.2 j i' B (by simpa using a) (by simpa using b)
  | [], _ :: _, h => h.elim
  | _ :: _, [], h => h.elim
  | _ :: _, none :: _, h => h.elim
theorem lent_of {L : Loc} {ids : List Nat} {L0 : Loc} (hn : decide ids.Nodup = true) (h : LentP L L0.length (fun j => ids.getD j 0) ids L0) : Lent L ids L0 := ⟨of_decide_eq_true hn, (lentP_at h).1, (lentP_at h).2⟩

section
variable {P : Program} {o : Oper} {s : St} {K : St → Prop}
/-- A call that changes variables of the walk's own. -/
theorem SOp_turn {f : FuncId} {xs : Array Operand} {ts : Array TypeId} {L0 L1 : Loc} {ds : List D} {r : D} (hc : Turns P f L0 ds L1 r) (ids : List Nat) (ho : o.op = .call { callee := .value (.func f), args := xs, argTypes := ts })
    (hn : decide ids.Nodup = true) (hlent : LentP s.loc L0.length (fun j => ids.getD j 0) ids L0) (hds : xs.toList.map s.ev = D.renAll (fun j => ids.getD j 0) ds) (hbel : D.belAll L0.length ds = true) (hlen : L1.length = L0.length) (hok : leftOk L0.length L1 = true) (hrb : r.bel L0.length = true) (hd : dstOk o s = true)
    (hK : K ({ s with loc := mergeL (fun j => ids.getD j 0) s.loc ids L1 }.put o.dst (r.ren fun j => ids.getD j 0))) : SOp P o K s := by
  intro E a w hs
  have hl := lent_of hn hlent
  have hm := hs.mem
  have hr := mid_ren hm hl
  have hsz : (xs.map a.eval).size = ds.length := by
    have := congrArg List.length hds
    simpa [D.renAll_length] using this
  have hrun : (execOp a.eval o).run P w = .ok (.enter f (xs.map a.eval)) w := by
    have he : a.eval (.func f) = .func (.func f) #[] #[] := rfl
    simp [execOp, ho, resolve, he, Deferred.ofValue, invoke, run_callFunc hc.1]
  unfold Oper.wp
  rw [hrun]
  refine (hc.2 (midEnv E s.loc ids L0) w (xs.map a.eval) (mid_memSim hm hl) hsz fun i v d h1 h2 => ?_).mono ?_
  · have h3 : (xs.toList.map s.ev)[i]? = some (d.ren fun j => ids.getD j 0) := by rw [hds, D.renAll_at, h2]; rfl
    simp only [Array.getElem?_map, Option.map_eq_some_iff, List.getElem?_map, Array.getElem?_toList] at h1 h3
    obtain ⟨x, hx, rfl⟩ := h1
    obtain ⟨y, hy, he⟩ := h3
    rw [hx] at hy
    cases hy
    exact (rep_ev hs.reg x).ren_back hr d he (D.belAll_at hbel h2)
  · rintro e w' ⟨v, d, LL, E1, rfl, ⟨hL1, rfl⟩, ev, hm1, hrep⟩
    have ev' := end_ev hm hl ev
    have hm' := end_memSim hm hl ev hm1 hL1 hlen hok
    have hr1 := end_ren hm hl (E1 := E1) ev.n
    refine ⟨_, _, hK, ?_, ev'⟩
    have hS0 : Sim (endEnv E E1 ids) { s with loc := mergeL (fun j => ids.getD j 0) s.loc ids L1 } a w' := ⟨hs.defers, hs.size, fun t => (hs.reg t).ev ev', hm'⟩
    exact hS0.put (Ev.refl _ _) hm' o.dst (dstOk_spec hd) (hrep.ren_forth hr1 hrb)
end
end Go.Proofs.YtcgocdcbceeoiaaGreat
