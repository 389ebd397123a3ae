/-
  Rows that are made; rows that are lent for good.
-/
import Derived.Test.YtcgocdcbceeoiaaGreatA11
namespace Go.Proofs.YtcgocdcbceeoiaaGreat
open Go

theorem get_rep_flat {α : Type} {zs : List α} {es : Nat} (hz : zs.length = es) : ∀ (l i : Nat), i < l * es → (List.replicate l zs).flatten[i]? = zs[i % es]?
  | 0, i, h => by omega
  | l + 1, i, h => by
    rw [List.replicate_succ, List.flatten_cons]
    by_cases hi : i < es
    · rw [List.getElem?_append_left (by omega), Nat.mod_eq_of_lt hi]
    · rw [List.getElem?_append_right (by omega), hz, get_rep_flat hz l (i - es) (by rw [Nat.succ_mul] at h; omega)]
      rw [Nat.mod_eq_sub_mod (show es ≤ i by omega)]
theorem length_rep_flat {α : Type} {zs : List α} {es : Nat} (hz : zs.length = es) (l : Nat) : (List.replicate l zs).flatten.length = l * es := by
  rw [List.length_flatten, List.map_replicate, hz, List.sum_replicate_nat]

section
variable {P : Program} {o : Oper} {s : St} {K : St → Prop}

theorem SOp_make {t es bytes : Nat} {zs : List D} {x y : Operand} {k1 k2 : IntKind} {l c : Nat} {n1 n2 : Int} [ht : TRow P t es bytes zs] (ho : o.op = .makeSlice t x y) (hx : s.ev x = .int k1 n1) (hy : s.ev y = .int k2 n2) (hn1 : n1 = (l : Int)) (hn2 : n2 = (c : Int))
    (hlc : l ≤ c) (hb : bytes * c ≤ 281474976710656) (hmax : c ≤ maxLen) (hd : dstOk o s = true)
    (hK : K ((s.push ⟨es, (List.replicate l zs).flatten⟩).put o.dst (.row s.loc.length (l * es) es l))) : SOp P o K s := by
  obtain ⟨e, i, z, t1, t2, t3, t4, t5, t6, t7, t8⟩ := ht.out
  have hz : zs.length = es := by rw [← t8, List.length_map, Array.length_toList, t7]
  have hcl : (List.replicate l zs).flatten.length = l * es := length_rep_flat hz l
  subst hn1; subst hn2
  have hle : l * es ≤ c * es := Nat.mul_le_mul_right _ hlc
  refine SOp_new ⟨es, (List.replicate l zs).flatten⟩ _ hd (fun E a w hs => ?_) hK
  have h1 : a.eval x = .int k1 l := Rep.int_inv (hx ▸ rep_ev hs.reg x)
  have h2 : a.eval y = .int k2 c := Rep.int_inv (hy ▸ rep_ev hs.reg y)
  have hrun := run_make (P := P) w t e i z t1 t2 t3 k1 k2 l c (by omega) (by omega) (by rw [t6, ← Int.natCast_mul]; omega) (by simp only [maxLen] at hmax; omega)
  simp only [Int.toNat_natCast, t4] at hrun
  refine ⟨madeCells z.cells (c * es), e, c, .slice (some ⟨w.heap.size, 0, none⟩) l c, by simp [execOp, ho, h1, h2, hrun], by rw [size_madeCells]; simp only; rw [hcl]; exact hle, fun _ => ⟨⟨l, hcl, hlc⟩, by rw [size_madeCells]; exact Nat.le_refl _, hmax⟩, fun j v d g1 g2 => ?_, ?_⟩
  · simp only at g2
    have hj : j < l * es := by rw [← hcl]; exact (List.getElem?_eq_some_iff.1 g2).1
    have hm : j % es < es := Nat.mod_lt _ t5
    rw [get_rep_flat hz l j hj, ← t8, List.getElem?_map, Array.getElem?_toList, Array.getElem?_eq_getElem (by omega)] at g2
    simp only [Option.map_some, Option.some.injEq] at g2
    have hv : v = z.cells[j % es]'(by omega) := by
      simp only [madeCells, Array.getElem?_map] at g1
      rw [Array.getElem?_range] at g1
      rw [if_pos (by omega)] at g1
      simp only [Option.map_some, Option.some.injEq, t7] at g1
      rw [← g1, getElem!_pos z.cells (j % es) (by omega)]
    subst hv; subst g2
    exact rep_ofV1 E w _
  · refine .row _ _ _ _ _ (by simp [Env.push, hs.mem.n]) (fun g0 hg => ?_) fun _ => .inr ⟨w.heap.size, c, by simp [Env.push, hs.mem.n], rfl, hlc⟩
    simp only [Env.push, hs.mem.n, if_true, Option.some.injEq] at hg
    rw [hcl] at hg
    omega

/-- A variable of the walk's own that is lent for good: its memory stays as it is from here on. -/
def frzEnv (E : Env) (id : Nat) : Env := { E with S := fun b => E.S b ∨ ∃ cap, E.β id = some (b, cap), c := fun j => if j = id then none else E.c j }
theorem freeze_core {E : Env} {L : Loc} {w : World} (hm : MemSim E L w) {id : Nat} {B : Box} (hB : L[id]? = some (some B)) :
    Ev E w (frzEnv E id) w ∧ MemSim (frzEnv E id) (L.set id none) w := by
  have hlt : id < L.length := (List.getElem?_eq_some_iff.1 hB).1
  have hidn : id < E.n := by rw [hm.n]; exact hlt
  have hcid : E.c id = some B.cells.length := by rw [hm.c, curOf_some hB]
  have ev : Ev E w (frzEnv E id) w := by
    refine ⟨rfl, rfl, rfl, Nat.le_refl _, rfl, fun _ h => .inl h, fun _ _ => rfl, fun b h => ?_, fun j b cap h1 h2 h3 => ?_, Nat.le_refl _, fun j hj g' hg => ?_⟩
    · rcases h with h | ⟨cap, h⟩
      · exact .inl h
      · exact .inr (.inr ⟨id, cap, hidn, by rw [hcid]; simp, h⟩)
    · simp only [frzEnv] at h1 h2 h3
      refine .inr ⟨j, cap, h1, fun h => h2 ?_, h3⟩
      split
      · rfl
      · exact h
    · simp only [frzEnv] at hg
      split at hg
      · cases hg
      · exact ⟨g', hg, Nat.le_refl _, fun _ => rfl⟩
  have hkey : ∀ (k : Nat) (Bk : Box), (L.set id none)[k]? = some (some Bk) → k ≠ id ∧ L[k]? = some (some Bk) := fun k Bk hk => by
    by_cases e : k = id
    · subst e
      rw [List.getElem?_set_self hlt] at hk
      cases hk
    · exact ⟨e, by rwa [List.getElem?_set_ne (Ne.symm e)] at hk⟩
  refine ⟨ev, by simpa [frzEnv] using hm.n, fun j => ?_, fun j Bj hj => ?_, fun i j Bi Bj b cb cb' hij hi hj hbi hbj => ?_, fun b h => ?_, hm.ltF⟩
  · simp only [frzEnv]
    by_cases e : j = id
    · subst e
      rw [if_pos rfl]
      unfold curOf
      rw [List.getElem?_set_self hlt]; rfl
    · rw [if_neg e, hm.c]
      unfold curOf
      rw [List.getElem?_set_ne (Ne.symm e)]
  · obtain ⟨e, hj'⟩ := hkey j Bj hj
    rcases hm.box j Bj hj' with h | ⟨b, cap, cur, t, h1, h2, h3, h4, h5, h6, h7⟩
    · exact .inl h
    · refine .inr ⟨b, cap, cur, t, h1, fun h => ?_, h3, h4, h5, h6, fun i v d g1 g2 => (h7 i v d g1 g2).ev ev⟩
      rcases h with h | ⟨cap', h⟩
      · exact h2 h
      · exact hm.sep j id Bj B b cap cap' e hj' hB h1 h
  · exact hm.sep i j Bi Bj b cb cb' hij (hkey i Bi hi).2 (hkey j Bj hj).2 hbi hbj
  · rcases h with h | ⟨cap, h⟩
    · exact hm.ltS b h
    · obtain ⟨⟨cur, t, h1⟩, _⟩ := ownB_heap hm ⟨id, B, cap, hB, h⟩
      exact (Array.getElem?_eq_some_iff.1 h1).1
theorem freeze_rep {E : Env} {L : Loc} {w : World} (hm : MemSim E L w) {id g es len : Nat} {B : Box} (hB : L[id]? = some (some B)) (hg : B.cells.length = g) (hlen : len * es = g) (hes : B.es = es) (h0 : 0 < es) (hfr : D.freeAll B.cells = true) {v : Value}
    (hr : Rep E w v (.row id g es len)) : Rep (frzEnv E id) w v (.slc es B.cells) := by
  have ev := (freeze_core hm hB).1
  have hcid : E.c id = some g := by rw [hm.c, curOf_some hB, hg]
  cases hr with
  | row _ _ _ _ _ k1 k2 k3 =>
    rcases k3 hcid with ⟨hβ, rfl, a, rfl⟩ | ⟨b, cap, hβ, rfl, hle⟩
    · have hB0 : B.cells = [] := List.eq_nil_of_length_eq_zero (by rw [hg]; omega)
      rw [hB0]
      exact .slc a 0 0 es [] 0 0 (fun _ => .bool false) (by simp) (Nat.le_refl _) (Nat.zero_le _) (by simp) (by simp) (by simp) rfl
    · rcases hm.box id B hB with ⟨h4, _⟩ | ⟨b', cap', cur, t, h4, q2, q3, q4, q5, q6, q7⟩
      · rw [hβ] at h4; cases h4
      · rw [hβ] at h4
        simp only [Option.some.injEq, Prod.mk.injEq] at h4
        obtain ⟨rfl, rfl⟩ := h4
        obtain ⟨⟨m0, hm0, hm0c⟩, hcc, hcx⟩ := q6 (by omega)
        have hcell : ∀ (i : Nat) d, B.cells[i]? = some d → ∃ u, cur[i]? = some u := fun i d hd => by
          have : i < B.cells.length := (List.getElem?_eq_some_iff.1 hd).1
          exact ⟨cur[i]'(by omega), Array.getElem?_eq_getElem _⟩
        refine .slc (some ⟨b, 0, none⟩) len cap es B.cells b 0 (fun i => cur.getD i (.bool false)) (by rw [hg, hlen]) hle (Nat.le_trans hle hcx) (fun _ => ⟨rfl, .inr ⟨cap, hβ⟩⟩) (fun i d hd => ?_) (fun i d hd => ?_) hfr
        · obtain ⟨u, hu⟩ := hcell i d hd
          simp [World.cell?, q4, hu, Array.getD_eq_getD_getElem?]
        · obtain ⟨u, hu⟩ := hcell i d hd
          simp only [Array.getD_eq_getD_getElem?, hu, Option.getD_some]
          exact (q7 i u d hu hd).ev ev

/-- A row in a temporary is lent for good. -/
theorem AW_freeze {c : Code} {Q : Exit → St → Prop} (t : Tmp) {id g es len : Nat} {B : Box} (ht : s.get t = .row id g es len) (hB : s.loc[id]? = some (some B)) (hg : B.cells.length = g) (hlen : len * es = g) (hes : B.es = es) (h0 : decide (0 < es) = true) (hfr : D.freeAll B.cells = true)
    (h : AW P c Q ({ s with loc := s.loc.set id none }.put (some t) (.slc es B.cells))) : AW P c Q s := by
  intro E a w hs
  obtain ⟨ev, hm⟩ := freeze_core hs.mem hB
  have hr := freeze_rep hs.mem hB hg hlen hes (of_decide_eq_true h0) hfr (ht ▸ hs.reg t)
  refine wp_mono (h (frzEnv E id) a w ⟨hs.defers, hs.size, fun t' => ?_, hm⟩) fun e a' w' ⟨s2, E2, q, hS2, ev2⟩ => ⟨s2, E2, q, hS2, ev.trans ev2⟩
  rw [St.put_get]
  by_cases e : t = t'
  · subst e; rw [if_pos rfl]; exact hr
  · rw [if_neg (by simpa using e)]; exact (hs.reg t').ev ev
/-- A row in a cell of another variable is lent for good. -/
theorem AW_freeze_cell {c : Code} {Q : Exit → St → Prop} (id2 j : Nat) {B2 : Box} (hB2 : s.loc[id2]? = some (some B2)) {id g es len : Nat} {B : Box} (ht : B2.cells[j]? = some (.row id g es len)) (hne : decide (id = id2) = false) (hB : s.loc[id]? = some (some B)) (hg : B.cells.length = g) (hlen : len * es = g) (hes : B.es = es) (h0 : decide (0 < es) = true) (hfr : D.freeAll B.cells = true)
    (h : AW P c Q { s with loc := (s.loc.set id none).set id2 (some { B2 with cells := B2.cells.set j (.slc es B.cells) }) }) : AW P c Q s := by
  intro E a w hs
  have hne' : id ≠ id2 := of_decide_eq_false hne
  obtain ⟨ev, hm⟩ := freeze_core hs.mem hB
  have hB2' : (s.loc.set id none)[id2]? = some (some B2) := by rw [List.getElem?_set_ne hne']; exact hB2
  have hlt2 : id2 < (s.loc.set id none).length := (List.getElem?_eq_some_iff.1 hB2').1
  have hm2 : MemSim (frzEnv E id) ((s.loc.set id none).set id2 (some { B2 with cells := B2.cells.set j (.slc es B.cells) })) w := by
    have hkey : ∀ (k : Nat) (Bk : Box), ((s.loc.set id none).set id2 (some { B2 with cells := B2.cells.set j (.slc es B.cells) }))[k]? = some (some Bk) → ∃ Bk' : Box, (s.loc.set id none)[k]? = some (some Bk') := by
      intro k Bk hk
      by_cases e : k = id2
      · subst e; exact ⟨B2, hB2'⟩
      · rw [List.getElem?_set_ne (Ne.symm e)] at hk; exact ⟨Bk, hk⟩
    refine ⟨by simpa using hm.n, fun k => by rw [curOf_set hB2' (by simp)]; exact hm.c k, fun k Bk hk => ?_, fun i k Bi Bk b cb cb' hij hi hk hbi hbj => ?_, hm.ltS, hm.ltF⟩
    · by_cases e : k = id2
      · subst e
        rw [List.getElem?_set_self hlt2] at hk
        simp only [Option.some.injEq] at hk
        subst hk
        rcases hm.box k B2 hB2' with ⟨h1, h2, h3⟩ | ⟨b, cap, cur, t, h1, h2, h3, h4, h5, h6, h7⟩
        · rw [h2] at ht; simp at ht
        · refine .inr ⟨b, cap, cur, t, h1, h2, h3, h4, by simpa using h5, by simpa using h6, fun i v d g1 g2 => ?_⟩
          by_cases ej : i = j
          · subst ej
            have hlj : i < B2.cells.length := (List.getElem?_eq_some_iff.1 ht).1
            rw [List.getElem?_set_self hlj] at g2
            cases g2
            rcases hs.mem.box k B2 hB2 with ⟨h1', _⟩ | ⟨b', cap', cur', t', h1', _, _, h4', _, _, h7'⟩
            · simp only [frzEnv] at h1; rw [h1'] at h1; cases h1
            · simp only [frzEnv] at h1
              rw [h1'] at h1
              simp only [Option.some.injEq, Prod.mk.injEq] at h1
              obtain ⟨rfl, rfl⟩ := h1
              rw [h4'] at h4
              simp only [Option.some.injEq, Obj.cells.injEq] at h4
              obtain ⟨rfl, rfl, _⟩ := h4
              exact freeze_rep hs.mem hB hg hlen hes (of_decide_eq_true h0) hfr (h7' i v _ g1 ht)
          · rw [List.getElem?_set_ne (Ne.symm ej)] at g2
            exact h7 i v d g1 g2
      · rw [List.getElem?_set_ne (Ne.symm e)] at hk
        exact hm.box k Bk hk
    · obtain ⟨Bi', hi'⟩ := hkey i Bi hi
      obtain ⟨Bk', hk'⟩ := hkey k Bk hk
      exact hm.sep i k Bi' Bk' b cb cb' hij hi' hk' hbi hbj
  exact wp_mono (h (frzEnv E id) a w ⟨hs.defers, hs.size, fun t' => (hs.reg t').ev ev, hm2⟩) fun e a' w' ⟨s2, E2, q, hS2, ev2⟩ => ⟨s2, E2, q, hS2, ev.trans ev2⟩
end
end Go.Proofs.YtcgocdcbceeoiaaGreat
