/-
  Calls that hand over new variables: what is lent comes back changed, and what is new is the caller's from then on.
-/
import Derived.Test.YtcgocdcbceeoiaaGreatA20
import Derived.Test.YtcgocdcbceeoiaaGreatA17
namespace Go.Proofs.YtcgocdcbceeoiaaGreat
open Go

/-- A contract of a call that hands over variables: L1 tells first those that were lent, as they are behind the call, then the new ones. -/
def Gives (P : Program) (f : FuncId) (L0 : Loc) (ds : List D) (L1 : Loc) (r : D) : Prop :=
  SCall P f L0 ds fun L d => ∃ σ : List Nat, Lent L σ L1 ∧ (∀ j, j < L0.length → σ[j]? = some j) ∧ d = r.ren (fun j => σ.getD j 0)

def endX (E E1 : Env) (ids σ : List Nat) (m : Nat) : Env :=
  { S := E1.S, F := E.F, n := E.n + m, β := fun i => match idx ids i with | some j => E1.β (σ.getD j 0) | none => E.β i, c := fun i => match idx ids i with | some j => E1.c (σ.getD j 0) | none => if i < E.n then E.c i else none }

section
variable {E : Env} {L : Loc} {w w' : World} {ids : List Nat} {L0 L1 LL : Loc} {E1 : Env} {σ : List Nat} {m : Nat}
/-- All that is known of such a call. -/
structure XCall (E : Env) (L : Loc) (w w' : World) (ids : List Nat) (L0 L1 LL : Loc) (E1 : Env) (σ : List Nat) (m : Nat) : Prop where
  hm : MemSim E L w
  hl : Lent L ids L0
  ev : Ev (midEnv E L ids L0) w E1 w'
  hm1 : MemSim E1 LL w'
  hσ : Lent LL σ L1
  hid : ∀ j, j < L0.length → σ[j]? = some j
  hlen : L1.length = L0.length + m
variable (X : XCall E L w w' ids L0 L1 LL E1 σ m)

abbrev idsX (E : Env) (ids : List Nat) (m : Nat) : List Nat := ids ++ List.range' E.n m
include X
theorem XCall.len : (idsX E ids m).length = L1.length := by simp [X.hl.len, X.hlen]
theorem XCall.ids_lt {i : Nat} (h : i ∈ ids) : i < E.n := by
  obtain ⟨j, hj⟩ := List.getElem?_of_mem h
  have hj' : j < L0.length := by rw [← X.hl.len]; exact (List.getElem?_eq_some_iff.1 hj).1
  obtain ⟨i', B0, g1, _, _, _, g4⟩ := X.hl.get hj'
  rw [hj] at g1; cases g1
  rw [X.hm.n]; exact (List.getElem?_eq_some_iff.1 g4).1
theorem XCall.nodup : (idsX E ids m).Nodup := by
  refine List.nodup_append.2 ⟨X.hl.nodup, List.nodup_range', fun a ha b hb => ?_⟩
  have := X.ids_lt ha
  have := (List.mem_range'_1.1 hb).1
  omega
theorem XCall.at_old {j : Nat} (hj : j < L0.length) : (idsX E ids m)[j]? = ids[j]? := List.getElem?_append_left (by rw [X.hl.len]; exact hj)
theorem XCall.at_new {j : Nat} (hj : j < m) : (idsX E ids m)[L0.length + j]? = some (E.n + j) := by
  rw [List.getElem?_append_right (by rw [X.hl.len]; omega), X.hl.len, show L0.length + j - L0.length = j by omega, List.getElem?_range' hj]; simp
/-- A number that the caller had before. -/
theorem XCall.old {i j : Nat} (h : idx (idsX E ids m) i = some j) (hi : i < E.n) : j < L0.length ∧ idx ids i = some j := by
  have h1 := idx_some h
  have hj : j < L0.length := by
    apply Classical.byContradiction
    intro hc
    have hlt := (List.getElem?_eq_some_iff.1 h1).1
    simp at hlt
    have := X.at_new (j := j - L0.length) (by have := X.hl.len; omega)
    rw [show L0.length + (j - L0.length) = j by omega, h1] at this
    simp at this
    omega
  exact ⟨hj, idx_of X.hl.nodup (by rw [← X.at_old hj]; exact h1)⟩
theorem XCall.new {i j : Nat} (h : idx (idsX E ids m) i = some j) (hi : ¬ i < E.n) : L0.length ≤ j ∧ i = E.n + (j - L0.length) := by
  have h1 := idx_some h
  have hj : ¬ j < L0.length := fun hj => by
    rw [X.at_old hj] at h1
    exact hi (X.ids_lt (List.mem_of_getElem? h1))
  have hlt := (List.getElem?_eq_some_iff.1 h1).1
  simp at hlt
  have := X.at_new (j := j - L0.length) (by have := X.hl.len; omega)
  rw [show L0.length + (j - L0.length) = j by omega, h1] at this
  simp at this
  exact ⟨by omega, this⟩
theorem XCall.jlt {i j : Nat} (h : idx (idsX E ids m) i = some j) : j < L1.length := by rw [← X.len]; exact (List.getElem?_eq_some_iff.1 (idx_some h)).1
theorem XCall.none_old {i : Nat} (h : idx (idsX E ids m) i = none) : idx ids i = none := have _ := X; idx_not fun hm => idx_none h (List.mem_append_left _ hm)
theorem XCall.none_lt {i : Nat} (h : idx (idsX E ids m) i = none) (hi : i < E.n + m) : i < E.n := by
  have _ := X
  apply Classical.byContradiction
  intro hc
  exact idx_none h (List.mem_append_right _ (List.mem_range'_1.2 ⟨by omega, by omega⟩))
theorem XCall.σ_old {j : Nat} (hj : j < L0.length) : σ.getD j 0 = j := by simp [List.getD, X.hid j hj]
/-- The callee's numbers, as L1 tells them. -/
theorem XCall.σlt {j : Nat} (hj : j < L1.length) : σ.getD j 0 < E1.n := by
  obtain ⟨i, B0, _, h2, _, _, h4⟩ := X.hσ.get hj
  rw [h2, X.hm1.n]; exact (List.getElem?_eq_some_iff.1 h4).1
theorem XCall.ρ {i j : Nat} (h : idx (idsX E ids m) i = some j) : (idsX E ids m).getD j 0 = i := by have _ := X; simp [List.getD, idx_some h]

/-- The callee's environment, numbered as L1 tells. -/
def XCall.lo (_ : XCall E L w w' ids L0 L1 LL E1 σ m) : Env := { S := E1.S, F := E1.F, n := L1.length, β := fun j => E1.β (σ.getD j 0), c := fun j => E1.c (σ.getD j 0) }
theorem XCall.ren1 : RenEnv X.lo E1 (fun j => σ.getD j 0) L1.length := ⟨rfl, fun _ h => h, fun _ h => X.σlt h, fun _ _ => rfl, fun _ _ => rfl⟩
theorem XCall.ren2 : RenEnv X.lo (endX E E1 (idsX E ids m) σ m) (fun j => (idsX E ids m).getD j 0) L1.length := by
  have hx : ∀ j, j < L1.length → ∃ i, (idsX E ids m)[j]? = some i ∧ (idsX E ids m).getD j 0 = i ∧ idx (idsX E ids m) i = some j := fun j hj => by
    have h1 : (idsX E ids m)[j]? = some ((idsX E ids m)[j]'(by rw [X.len]; exact hj)) := List.getElem?_eq_getElem _
    exact ⟨_, h1, by simp only [List.getD, h1]; rfl, idx_of X.nodup h1⟩
  refine ⟨rfl, fun _ h => h, fun j hj => ?_, fun j hj => ?_, fun j hj => ?_⟩
  · obtain ⟨i, h1, h2, h3⟩ := hx j hj
    rw [h2]
    by_cases hi : i < E.n
    · exact Nat.lt_of_lt_of_le hi (Nat.le_add_right _ _)
    · have := X.new h3 hi
      have := X.hlen
      show i < E.n + m
      omega
  · obtain ⟨i, h1, h2, h3⟩ := hx j hj
    simp only [endX, h2, h3]; rfl
  · obtain ⟨i, h1, h2, h3⟩ := hx j hj
    simp only [endX, h2, h3]; rfl

theorem XCall.own {b j cap : Nat} (hj : j < L0.length) (hc : (midEnv E L ids L0).c j ≠ none) (hβ : (midEnv E L ids L0).β j = some (b, cap)) : ∃ id cap, id < E.n ∧ E.c id ≠ none ∧ E.β id = some (b, cap) :=
  have hr := mid_ren X.hm X.hl
  ⟨ids.getD j 0, cap, hr.n j hj, by rw [← hr.c j hj]; exact hc, by rw [← hr.β j hj]; exact hβ⟩
theorem XCall.evX : Ev E w (endX E E1 (idsX E ids m) σ m) w' := by
  have hr := mid_ren X.hm X.hl
  have ev := X.ev
  refine ⟨ev.os, ev.tape, ev.output, ev.size, rfl, ev.S, fun b hb => ev.heap b (hb.imp id .inl), fun b hb => ?_, fun i b cap h1 h2 h3 => ?_, Nat.le_add_right _ _, fun i hi g' hg => ?_⟩
  · rcases ev.newS b hb with h | h | ⟨j, cap, h1, h2, h3⟩
    · exact .inl h
    · exact .inr (.inl h)
    · exact .inr (.inr (X.own h1 h2 h3))
  · simp only [endX] at h1 h2 h3
    cases hx : idx (idsX E ids m) i with
    | none =>
      rw [hx] at h2 h3
      have hi := X.none_lt hx h1
      simp only [if_pos hi] at h2
      exact .inr ⟨i, cap, hi, h2, h3⟩
    | some j =>
      rw [hx] at h2 h3
      rcases ev.newβ _ b cap (X.σlt (X.jlt hx)) h2 h3 with h | ⟨j', cap', q1, q2, q3⟩
      · exact .inl h
      · exact .inr (X.own q1 q2 q3)
  · simp only [endX] at hg ⊢
    cases hx : idx (idsX E ids m) i with
    | none => rw [hx] at hg; simp only [if_pos hi] at hg; exact ⟨g', hg, Nat.le_refl _, fun _ => rfl⟩
    | some j =>
      rw [hx] at hg
      obtain ⟨hj, hx'⟩ := X.old hx hi
      simp only [X.σ_old hj] at hg
      obtain ⟨g, q1, q2, q3⟩ := ev.live j hj g' hg
      have e := idx_some hx'
      have e2 : ids.getD j 0 = i := by simp [List.getD, e]
      refine ⟨g, ?_, q2, fun eg => ?_⟩
      · rw [← e2, ← hr.c j hj]; exact q1
      · simp only [X.σ_old hj]
        rw [q3 eg, hr.β j hj, e2]

/-- The caller's variables behind the call. -/
theorem XCall.loc_len : (mergeL (fun j => (idsX E ids m).getD j 0) (L ++ List.replicate m none) (idsX E ids m) L1).length = E.n + m := by
  rw [mergeL_length]; simp [X.hm.n]
theorem XCall.loc_none {i : Nat} (h : idx (idsX E ids m) i = none) : (mergeL (fun j => (idsX E ids m).getD j 0) (L ++ List.replicate m none) (idsX E ids m) L1)[i]? = L[i]? := by
  rw [mergeL_other _ _ _ _ _ (idx_none h)]
  by_cases hi : i < L.length
  · exact List.getElem?_append_left hi
  · rw [List.getElem?_append_right (by omega), List.getElem?_eq_none (by omega : L.length ≤ i)]
    rw [List.getElem?_eq_none]
    simp
    have : ¬ i < E.n + m := fun hc => by
      have := X.none_lt h hc
      have := X.hm.n
      omega
    have := X.hm.n
    omega
theorem XCall.loc_some {i j : Nat} (h : idx (idsX E ids m) i = some j) : ∃ B, L1[j]? = some (some B) ∧ D.belAll L1.length B.cells = true ∧ LL[σ.getD j 0]? = some (some ⟨B.es, D.renAll (fun j => σ.getD j 0) B.cells⟩) ∧
    (mergeL (fun j => (idsX E ids m).getD j 0) (L ++ List.replicate m none) (idsX E ids m) L1)[i]? = some (some ⟨B.es, D.renAll (fun j => (idsX E ids m).getD j 0) B.cells⟩) := by
  obtain ⟨i', B, g1, g2, g3, g4, g5⟩ := X.hσ.get (X.jlt h)
  refine ⟨B, g3, g4, by rw [g2]; exact g5, ?_⟩
  rw [mergeL_at _ _ _ _ j i (some B) X.nodup (fun k hk => ?_) (idx_some h) g3]
  · rfl
  · simp only [List.length_append, List.length_replicate, ← X.hm.n]
    rcases List.mem_append.1 hk with hk | hk
    · have := X.ids_lt hk; omega
    · have := List.mem_range'_1.1 hk; omega

theorem XCall.memX : MemSim (endX E E1 (idsX E ids m) σ m) (mergeL (fun j => (idsX E ids m).getD j 0) (L ++ List.replicate m none) (idsX E ids m) L1) w' := by
  have ev := X.ev
  have hm := X.hm
  have hm1 := X.hm1
  have ev' := X.evX
  have hr := mid_ren hm X.hl
  have apart : ∀ {i j : Nat} {B : Box} {b cap cap' : Nat}, idx (idsX E ids m) i = none → L[i]? = some (some B) → E.β i = some (b, cap) → j < L0.length → (midEnv E L ids L0).β j = some (b, cap') → False := fun {i j B b cap cap'} hx hB hβ hj hb => by
    obtain ⟨i', B0, g1, g2, _, _, g4⟩ := X.hl.get hj
    rw [hr.β j hj, g2] at hb
    exact hm.sep i i' B _ b cap cap' (fun e => idx_none (X.none_old hx) (e ▸ List.mem_of_getElem? g1)) hB g4 hβ hb
  refine ⟨by rw [X.loc_len]; rfl, fun i => ?_, fun i B hB => ?_, fun i1 i2 B1 B2 b cb cb' hne h1 h2 hb1 hb2 => ?_, hm1.ltS, fun b h => Nat.lt_of_lt_of_le (hm.ltF b h) ev.size⟩
  · cases hx : idx (idsX E ids m) i with
    | none =>
      simp only [endX, hx, hm.c]
      unfold curOf; rw [X.loc_none hx]
      split
      · rfl
      · rw [List.getElem?_eq_none (by have := hm.n; omega)]; rfl
    | some j =>
      obtain ⟨B', h1, _, h2, h3⟩ := X.loc_some hx
      simp only [endX, hx, hm1.c]
      rw [curOf_some h2, curOf_some h3]
      simp [D.renAll_length]
  · cases hx : idx (idsX E ids m) i with
    | none =>
      rw [X.loc_none hx] at hB
      rcases hm.box i B hB with h | ⟨b, cap, cur, t, h1, h2, h3, h4, h5, h6, h7⟩
      · exact .inl ⟨by simp only [endX, hx]; exact h.1, h.2⟩
      · refine .inr ⟨b, cap, cur, t, by simp only [endX, hx]; exact h1, fun h => ?_, h3, ?_, h5, h6, fun n v d g1 g2 => (h7 n v d g1 g2).ev ev'⟩
        · rcases ev.newS b h with h | h | ⟨j, cap', q1, _, q3⟩
          · exact h2 h
          · have := (Array.getElem?_eq_some_iff.1 h4).1; omega
          · exact apart hx hB h1 q1 q3
        · rw [ev.heap b (.inr (.inr ⟨i, B, cap, idx_none (X.none_old hx), hB, h1⟩))]; exact h4
    | some j =>
      obtain ⟨B', h0, hb, h1, h3⟩ := X.loc_some hx
      rw [h3] at hB
      cases hB
      rcases hm1.box _ _ h1 with ⟨q1, q2, q3⟩ | ⟨b, cap, cur, t, q1, q2, q3, q4, q5, q6, q7⟩
      · refine .inl ⟨by simp only [endX, hx]; exact q1, ?_, q3⟩
        have := congrArg List.length q2
        simp only [D.renAll_length, List.length_nil] at this
        exact List.eq_nil_of_length_eq_zero (by simp only [D.renAll_length]; exact this)
      · simp only [D.renAll_length] at q5 q6
        refine .inr ⟨b, cap, cur, t, by simp only [endX, hx]; exact q1, q2, fun h => q3 (by rw [ev.F]; exact .inl h), q4, by simpa [D.renAll_length] using q5, by simpa [D.renAll_length] using q6, fun n v d g1 g2 => ?_⟩
        simp only [D.renAll_at] at g2
        obtain ⟨c, hc, rfl⟩ := Option.map_eq_some_iff.1 g2
        have hbc := D.belAll_at hb hc
        exact ((q7 n v (c.ren fun j => σ.getD j 0) g1 (by rw [D.renAll_at, hc]; rfl)).ren_back X.ren1 c rfl hbc).ren_forth X.ren2 hbc
  · have mixed : ∀ {i i' j : Nat} {B : Box} {b cap cap' : Nat}, idx (idsX E ids m) i = none → L[i]? = some (some B) → E.β i = some (b, cap) → idx (idsX E ids m) i' = some j → E1.c (σ.getD j 0) ≠ none → E1.β (σ.getD j 0) = some (b, cap') → False := fun {i i' j B b cap cap'} hx hB hβ hy hc hb => by
      rcases ev.newβ _ b cap' (X.σlt (X.jlt hy)) hc hb with h | ⟨j', c2, q1, _, q3⟩
      · obtain ⟨⟨cur, t, h1⟩, _⟩ := ownB_heap hm ⟨i, B, cap, hB, hβ⟩
        have := (Array.getElem?_eq_some_iff.1 h1).1
        omega
      · exact apart hx hB hβ q1 q3
    cases hx1 : idx (idsX E ids m) i1 with
    | none =>
      rw [X.loc_none hx1] at h1
      simp only [endX, hx1] at hb1
      cases hx2 : idx (idsX E ids m) i2 with
      | none =>
        rw [X.loc_none hx2] at h2
        simp only [endX, hx2] at hb2
        exact hm.sep i1 i2 B1 B2 b cb cb' hne h1 h2 hb1 hb2
      | some j2 =>
        simp only [endX, hx2] at hb2
        obtain ⟨B', _, _, g1, _⟩ := X.loc_some hx2
        exact mixed hx1 h1 hb1 hx2 (by rw [hm1.c, curOf_some g1]; simp) hb2
    | some j1 =>
      simp only [endX, hx1] at hb1
      obtain ⟨B', _, _, g1, _⟩ := X.loc_some hx1
      cases hx2 : idx (idsX E ids m) i2 with
      | none =>
        rw [X.loc_none hx2] at h2
        simp only [endX, hx2] at hb2
        exact mixed hx2 h2 hb2 hx1 (by rw [hm1.c, curOf_some g1]; simp) hb1
      | some j2 =>
        simp only [endX, hx2] at hb2
        obtain ⟨B2', _, _, g2, _⟩ := X.loc_some hx2
        refine hm1.sep (σ.getD j1 0) (σ.getD j2 0) _ _ b cb cb' (fun e => hne ?_) g1 g2 hb1 hb2
        have k1 : σ[j1]? = some (σ.getD j1 0) := by obtain ⟨i, _, a, b, _⟩ := X.hσ.get (X.jlt hx1); rw [a, b]
        have k2 : σ[j2]? = some (σ.getD j2 0) := by obtain ⟨i, _, a, b, _⟩ := X.hσ.get (X.jlt hx2); rw [a, b]
        have e1 := idx_of X.hσ.nodup k1
        have e2 := idx_of X.hσ.nodup k2
        rw [e, e2] at e1
        have e3 := idx_some hx1
        have e4 := idx_some hx2
        cases e1
        rw [e3] at e4
        exact Option.some.inj e4
end

section
variable {P : Program} {o : Oper} {s : St} {K : St → Prop}
/-- A call that hands over variables. -/
theorem SOp_gives {f : FuncId} {xs : Array Operand} {ts : Array TypeId} {L0 L1 : Loc} {ds : List D} {r : D} (hc : Gives P f L0 ds L1 r) (ids : List Nat) (m : Nat) (ho : o.op = .call { callee := .value (.func f), args := xs, argTypes := ts })
    (hn : decide ids.Nodup = true) (hlent : LentP s.loc L0.length (fun j => ids.getD j 0) ids L0) (hds : xs.toList.map s.ev = D.renAll (fun j => ids.getD j 0) ds) (hbel : D.belAll L0.length ds = true) (hlen : L1.length = L0.length + m) (hrb : r.bel L1.length = true) (hd : dstOk o s = true)
    (hK : K ({ s with loc := mergeL (fun j => (ids ++ List.range' s.loc.length m).getD j 0) (s.loc ++ List.replicate m none) (ids ++ List.range' s.loc.length m) L1 }.put o.dst (r.ren fun j => (ids ++ List.range' s.loc.length m).getD j 0))) : SOp P o K s := by
  intro E a w hs
  have hl := lent_of hn hlent
  have hm := hs.mem
  have hr := mid_ren hm hl
  have hsz : (xs.map a.eval).size = ds.length := by
    have := congrArg List.length hds
    simpa [D.renAll_length] using this
  have hrun : (execOp a.eval o).run P w = .ok (.enter f (xs.map a.eval)) w := by
    have he : a.eval (.func f) = .func (.func f) #[] #[] := rfl
    simp [execOp, ho, resolve, he, Deferred.ofValue, invoke, run_callFunc hc.1]
  unfold Oper.wp
  rw [hrun]
  refine (hc.2 (midEnv E s.loc ids L0) w (xs.map a.eval) (mid_memSim hm hl) hsz fun i v d h1 h2 => ?_).mono ?_
  · have h3 : (xs.toList.map s.ev)[i]? = some (d.ren fun j => ids.getD j 0) := by rw [hds, D.renAll_at, h2]; rfl
    simp only [Array.getElem?_map, Option.map_eq_some_iff, List.getElem?_map, Array.getElem?_toList] at h1 h3
    obtain ⟨x, hx, rfl⟩ := h1
    obtain ⟨y, hy, he⟩ := h3
    rw [hx] at hy
    cases hy
    exact (rep_ev hs.reg x).ren_back hr d he (D.belAll_at hbel h2)
  · rintro e w' ⟨v, d, LL, E1, rfl, ⟨σ, hσ, hid, rfl⟩, ev, hm1, hrep⟩
    have X : XCall E s.loc w w' ids L0 L1 LL E1 σ m := ⟨hm, hl, ev, hm1, hσ, hid, hlen⟩
    have ev' := X.evX
    have hm' := X.memX
    have hrr := (hrep.ren_back X.ren1 r rfl hrb).ren_forth X.ren2 hrb
    simp only [idsX, hm.n] at ev' hm' hrr
    refine ⟨_, _, hK, ?_, ev'⟩
    have hS0 : Sim _ { s with loc := mergeL (fun j => (ids ++ List.range' s.loc.length m).getD j 0) (s.loc ++ List.replicate m none) (ids ++ List.range' s.loc.length m) L1 } a w' := ⟨hs.defers, hs.size, fun t => (hs.reg t).ev ev', hm'⟩
    exact hS0.put (Ev.refl _ _) hm' o.dst (dstOk_spec hd) hrr
/-- The end of a function that hands over variables. -/
theorem gives_end {L L1 : Loc} {d r : D} {k : Nat} (σ : List Nat) (hn : decide σ.Nodup = true) (hl : LentP L L1.length (fun j => σ.getD j 0) σ L1) (hid : ∀ j, j < k → σ[j]? = some j) (hd : d = r.ren (fun j => σ.getD j 0)) :
    ∃ σ : List Nat, Lent L σ L1 ∧ (∀ j, j < k → σ[j]? = some j) ∧ d = r.ren (fun j => σ.getD j 0) := ⟨σ, lent_of hn hl, hid, hd⟩
end
end Go.Proofs.YtcgocdcbceeoiaaGreat
