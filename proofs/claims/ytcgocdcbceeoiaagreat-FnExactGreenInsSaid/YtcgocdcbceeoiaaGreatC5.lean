/-
  Junctions, joints and the roads that they use: plain facts.
-/
import Derived.Test.YtcgocdcbceeoiaaGreatC4
import Derived.Test.YtcgocdcbceeoiaaGreatA22
namespace Go.Proofs.YtcgocdcbceeoiaaGreat
open Go Go.Proofs

abbrev rowL (f : Nat → Nat) : List Nat := [f 1, f 2, f 3]
def sumRow (f : Nat → Nat) : Nat := sumF (f 0) (rowL f)
/-- One turn of a junction: of the in i to the out k. -/
def turnOk (j : Junction) (i k : Nat) : Bool := isShr (j.turns i k) && (decide ((i : Int) < j.ins) && decide ((k : Int) < j.outs) || feq .f32 (j.turns i k) 0)
def turnsOk (j : Junction) (i : Nat) : Bool := (List.range 4).all fun k => turnOk j i k
def inOk (j : Junction) (i : Nat) : Bool :=
  if (i : Int) < j.ins then fge .f32 (sumRow (j.turns i)) 1065336439 && fle .f32 (sumRow (j.turns i)) 1065361605 && isPri (j.prior i) else isZer (j.prior i)
def okJunction (j : Junction) : Bool := inR j.ins 1 4 && inR j.outs 1 4 && (List.range 4).all fun i => turnsOk j i && inOk j i

theorem all4_false {p : Nat → Bool} {i : Nat} (h : i < 4) (hp : p i = false) : (List.range 4).all p = false := by
  rw [List.all_eq_false]; exact ⟨i, by simpa using h, by simp [hp]⟩
theorem all4_true {p : Nat → Bool} (h : ∀ i, i < 4 → p i = true) : (List.range 4).all p = true := by
  rw [List.all_eq_true]; intro i hi; exact h i (by simpa using hi)
theorem okJunction_false {j : Junction} {i : Nat} (h : i < 4) (hp : (turnsOk j i && inOk j i) = false) : okJunction j = false := by
  unfold okJunction; rw [all4_false h hp]; simp
theorem turnsOk_false {j : Junction} {i k : Nat} (h : k < 4) (hp : turnOk j i k = false) : turnsOk j i = false := all4_false h hp
theorem nn_shr {m : Nat} (h : isShr m = true) : nn m = true := by
  unfold isShr at h
  simp only [Bool.and_eq_true] at h
  exact nn_of_amt h.1
theorem nn_sum {j : Junction} {i : Nat} (h : turnsOk j i = true) : nn (sumRow (j.turns i)) = true := by
  unfold turnsOk at h
  rw [List.all_eq_true] at h
  have hk : ∀ k, k < 4 → nn (j.turns i k) = true := fun k hk => by
    have := h k (by simpa using hk)
    unfold turnOk at this
    simp only [Bool.and_eq_true] at this
    exact nn_shr this.1
  unfold sumRow sumF
  simp only [List.foldl_cons, List.foldl_nil]
  exact nn_add (nn_add (nn_add (hk 0 (by omega)) (hk 1 (by omega))) (hk 2 (by omega))) (hk 3 (by omega))

/-! roads that are used -/
def uni (n : Nat) (xs : List Int) : Bool := xs.all (fun i => inR i 0 ((n : Int) - 1)) && decide xs.Nodup
theorem uni_iff {n : Nat} {xs : List Int} : uni n xs = true ↔ (∀ x ∈ xs, inR x 0 ((n : Int) - 1) = true) ∧ xs.Nodup := by simp [uni]
theorem uni_true {n : Nat} {xs : List Int} (h : ∀ i (hi : i < xs.length), inR xs[i] 0 ((n : Int) - 1) = true ∧ xs[i] ∉ xs.take i) : uni n xs = true := by
  refine uni_iff.2 ⟨fun x hx => ?_, ?_⟩
  · obtain ⟨i, hi, rfl⟩ := List.getElem_of_mem hx
    exact (h i hi).1
  · refine List.pairwise_iff_getElem.2 fun i j hi hj hij e => ?_
    refine (h j hj).2 ?_
    rw [← e]
    have : (xs.take j)[i]'(by simp; omega) = xs[i] := by simp
    rw [← this]; exact List.getElem_mem _
theorem uni_false {n : Nat} {xs : List Int} {k : Nat} (hk : k < xs.length) (h : inR xs[k] 0 ((n : Int) - 1) = false ∨ xs[k] ∈ xs.take k) : uni n xs = false := by
  rw [← Bool.not_eq_true, uni_iff]
  rintro ⟨h1, h2⟩
  rcases h with h | h
  · rw [h1 _ (List.getElem_mem hk)] at h; cases h
  · obtain ⟨i, hi, e⟩ := List.getElem_of_mem h
    simp at hi e
    exact List.pairwise_iff_getElem.1 h2 i k (by omega) hk (by omega) e
theorem uni_append {n : Nat} {xs ys : List Int} : uni n (xs ++ ys) = true ↔ uni n xs = true ∧ uni n ys = true ∧ ∀ x ∈ xs, x ∉ ys := by
  simp only [uni_iff, List.mem_append, List.nodup_append]
  constructor
  · rintro ⟨h1, h2, h3, h4⟩
    exact ⟨⟨fun x hx => h1 x (.inl hx), h2⟩, ⟨fun x hx => h1 x (.inr hx), h3⟩, fun x hx hy => h4 x hx x hy rfl⟩
  · rintro ⟨⟨h1, h2⟩, ⟨h3, h4⟩, h5⟩
    exact ⟨fun x hx => hx.elim (h1 x) (h3 x), h2, h4, fun a ha b hb e => h5 a ha (e ▸ hb)⟩

/-- The marks behind a list. -/
def markU (u : Nat → Bool) (xs : List Int) : Nat → Bool := fun j => u j || xs.contains (j : Int)
def usedRun (n : Nat) : (Nat → Bool) → List Int → (Nat → Bool) × Bool
  | u, [] => (u, true)
  | u, x :: r => if inR x 0 ((n : Int) - 1) = true ∧ u x.toNat = false then usedRun n (fun j => if j = x.toNat then true else u j) r else (u, false)
theorem markU_nil (u : Nat → Bool) : markU u [] = u := by funext j; simp [markU]
theorem markU_markU (u : Nat → Bool) (xs ys : List Int) : markU (markU u xs) ys = markU u (xs ++ ys) := by
  funext j; simp [markU, Bool.or_assoc]
theorem mark_one {u : Nat → Bool} {x : Int} (h : 0 ≤ x) : (fun j => if j = x.toNat then true else u j) = markU u [x] := by
  funext j
  unfold markU
  by_cases e : j = x.toNat
  · subst e
    have : ((x.toNat : Nat) : Int) = x := by omega
    simp [this]
  · rw [if_neg e]
    have : ¬ (x = (j : Int)) := fun h' => e (by omega)
    simp; intro h'; exact absurd h'.symm this
theorem usedRun_spec (n : Nat) : ∀ (I xs : List Int), uni n I = true → ((usedRun n (markU (fun _ => false) I) xs).2 = uni n (I ++ xs)) ∧ (uni n (I ++ xs) = true → (usedRun n (markU (fun _ => false) I) xs).1 = markU (fun _ => false) (I ++ xs))
  | I, [], h => by
    rw [List.append_nil]
    exact ⟨by rw [h]; rfl, fun _ => rfl⟩
  | I, x :: r, h => by
    unfold usedRun
    by_cases hx : inR x 0 ((n : Int) - 1) = true
    · have h0 : 0 ≤ x := by unfold inR at hx; simp at hx; omega
      have hc : ((x.toNat : Nat) : Int) = x := by omega
      by_cases hu : x ∈ I
      · have e1 : markU (fun _ => false) I x.toNat = true := by simp [markU, hc, hu]
        rw [if_neg (by simp [e1])]
        have e2 : uni n (I ++ x :: r) = false := by
          rw [← Bool.not_eq_true, uni_append]
          rintro ⟨_, _, h3⟩
          exact h3 x hu (by simp)
        exact ⟨by rw [e2], fun e => by rw [e2] at e; cases e⟩
      · have e1 : markU (fun _ => false) I x.toNat = false := by simp [markU, hc, hu]
        rw [if_pos ⟨hx, e1⟩, mark_one h0, markU_markU]
        have h' : uni n (I ++ [x]) = true := uni_append.2 ⟨h, uni_iff.2 ⟨by simpa using hx, by simp⟩, fun y hy hm => by simp at hm; exact hu (hm ▸ hy)⟩
        have := usedRun_spec n (I ++ [x]) r h'
        simpa using this
    · rw [if_neg (by simp [hx])]
      have e2 : uni n (I ++ x :: r) = false := by
        rw [← Bool.not_eq_true, uni_iff]
        rintro ⟨h1, _⟩
        exact hx (h1 x (by simp))
      exact ⟨by rw [e2], fun e => by rw [e2] at e; cases e⟩

/-- What a joint must be, apart from the roads that it uses. -/
def jointOk (np : Nat) (j : Joint) : Bool := okJunction j.j && decide ((j.ins.length : Int) = j.j.ins) && decide ((j.outs.length : Int) = j.j.outs) && inR j.plan (-1) ((np : Int) - 1)
abbrev insOf (js : List Joint) : List Int := js.flatMap (·.ins)
abbrev outsOf (js : List Joint) : List Int := js.flatMap (·.outs)
def okJoints (n np : Nat) (js : List Joint) : Bool := js.all (jointOk np) && uni n (insOf js) && uni n (outsOf js)
/-- What the reference finds of the ends. -/
def endsRun (n np : Nat) : (Nat → Bool) → (Nat → Bool) → List Joint → (Nat → Bool) × (Nat → Bool) × Bool
  | u, v, [] => (u, v, true)
  | u, v, j :: r =>
    if (okJunction j.j && decide ((j.ins.length : Int) = j.j.ins) && decide ((j.outs.length : Int) = j.j.outs)) = false then (u, v, false)
    else if (usedRun n u j.ins).2 = false then ((usedRun n u j.ins).1, v, false)
    else if (usedRun n v j.outs).2 = false then ((usedRun n u j.ins).1, (usedRun n v j.outs).1, false)
    else if inR j.plan (-1) ((np : Int) - 1) = false then ((usedRun n u j.ins).1, (usedRun n v j.outs).1, false)
    else endsRun n np (usedRun n u j.ins).1 (usedRun n v j.outs).1 r
theorem uni_pre {n : Nat} {xs ys : List Int} (h : uni n (xs ++ ys) = true) : uni n xs = true := (uni_append.1 h).1
theorem endsRun_spec (n np : Nat) : ∀ (I O : List Int) (js : List Joint), uni n I = true → uni n O = true →
    (endsRun n np (markU (fun _ => false) I) (markU (fun _ => false) O) js).2.2 = (js.all (jointOk np) && uni n (I ++ insOf js) && uni n (O ++ outsOf js)) ∧
    ((endsRun n np (markU (fun _ => false) I) (markU (fun _ => false) O) js).2.2 = true →
      (endsRun n np (markU (fun _ => false) I) (markU (fun _ => false) O) js).1 = markU (fun _ => false) (I ++ insOf js) ∧ (endsRun n np (markU (fun _ => false) I) (markU (fun _ => false) O) js).2.1 = markU (fun _ => false) (O ++ outsOf js))
  | I, O, [], h1, h2 => by simp [endsRun, h1, h2]
  | I, O, j :: r, h1, h2 => by
    have a := usedRun_spec n I j.ins h1
    have b := usedRun_spec n O j.outs h2
    unfold endsRun
    by_cases c1 : (okJunction j.j && decide ((j.ins.length : Int) = j.j.ins) && decide ((j.outs.length : Int) = j.j.outs)) = false
    · rw [if_pos c1]
      have : jointOk np j = false := by unfold jointOk; rw [c1]; rfl
      refine ⟨?_, fun e => by cases e⟩
      simp [this]
    rw [if_neg c1]
    by_cases c2 : (usedRun n (markU (fun _ => false) I) j.ins).2 = false
    · rw [if_pos c2]
      refine ⟨?_, fun e => by cases e⟩
      rw [a.1] at c2
      have : uni n (I ++ insOf (j :: r)) = false := by
        rw [← Bool.not_eq_true]
        intro e
        rw [insOf, List.flatMap_cons, ← List.append_assoc] at e
        rw [uni_pre e] at c2; cases c2
      show false = _
      rw [this, Bool.and_false, Bool.false_and]
    rw [if_neg c2]
    by_cases c3 : (usedRun n (markU (fun _ => false) O) j.outs).2 = false
    · rw [if_pos c3]
      refine ⟨?_, fun e => by cases e⟩
      rw [b.1] at c3
      have : uni n (O ++ outsOf (j :: r)) = false := by
        rw [← Bool.not_eq_true]
        intro e
        rw [outsOf, List.flatMap_cons, ← List.append_assoc] at e
        rw [uni_pre e] at c3; cases c3
      show false = _
      rw [this, Bool.and_false]
    rw [if_neg c3]
    by_cases c4 : inR j.plan (-1) ((np : Int) - 1) = false
    · rw [if_pos c4]
      refine ⟨?_, fun e => by cases e⟩
      have : jointOk np j = false := by unfold jointOk; rw [c4]; simp
      simp [this]
    rw [if_neg c4]
    have c2' : uni n (I ++ j.ins) = true := by rw [← a.1]; simpa using c2
    have c3' : uni n (O ++ j.outs) = true := by rw [← b.1]; simpa using c3
    rw [a.2 c2', b.2 c3']
    have ih := endsRun_spec n np (I ++ j.ins) (O ++ j.outs) r c2' c3'
    have hj : jointOk np j = true := by unfold jointOk; simp at c1 c4; simp [c1, c4]
    simp only [List.all_cons, hj, Bool.true_and, insOf, outsOf, List.flatMap_cons, List.append_assoc] at ih ⊢
    exact ih

/-! plans -/
def cycleOf (p : Plan) : Int := (p.slots.map fun s => s.ticks + p.between).sum
def okPlan (p : Plan) : Bool := inR p.slots.length 1 8 && (p.slots.all fun s => inR s.ticks 1 240) && inR p.between 0 240 && decide (cycleOf p ≤ 240) && inR p.offset 0 (cycleOf p - 1)

/-! towns -/
def isOutB (t : Town) (i : Nat) : Bool := t.joints.any fun j => j.outs.contains (i : Int)
def offerOk (t : Town) (i : Nat) (a : Nat) : Bool := isAmt a && (!isOutB t i || feq .f32 a 0)
def okTown (t : Town) : Bool :=
  inR t.roads.length 1 8 && t.roads.all okRoad && decide (t.offered.length = t.roads.length) && decide (t.joints.length ≤ 4) && decide (t.plans.length ≤ 6) && okJoints t.roads.length t.plans.length t.joints &&
    ((List.range t.offered.length).all fun i => offerOk t i (t.offered.getD i 0)) && t.plans.all okPlan && inR t.tick 0 1000000000 && isAmt t.came && isAmt t.went
end Go.Proofs.YtcgocdcbceeoiaaGreat
