/-
  From a law's contract to its row: arguments opened, whatever they are.
-/
import Derived.Test.YtcgocdcbceeoiaaGreatA15
import Derived.WalkKit
import Derived.ProofKit
import Derived.OpenShut
import Derived.ChangeOld
import Derived.ChangeArms
import Derived.Deep.Slices
import Derived.Below
import Derived.Carry
import Derived.Laws.Cover2
namespace Go.Proofs.YtcgocdcbceeoiaaGreat
open Go Go.ChangeShapes Go.WideShapes Go.ChangeAt Go.RowKit

/-- All that was there stays. -/
def E0 (W : World) : Env := { S := fun b => b < W.heap.size, F := fun _ => False, n := 0, β := fun _ => none, c := fun _ => none }
theorem memSim0 (W : World) : MemSim (E0 W) [] W := ⟨rfl, fun _ => rfl, fun id B h => by simp at h, fun i j Bi Bj b cb cb' _ h => by simp at h, fun _ h => h, fun _ h => h.elim⟩
theorem below_of_ev {W W' : World} {E' : Env} (h : Ev (E0 W) W E' W') : Below W.heap.size W W' := ⟨h.os, h.tape, h.output, h.size, fun k hk => h.heap k (.inl hk)⟩
/-- A contract that answers yes, as the rows ask for it. -/
theorem calls_of_pure {P : Program} {f : FuncId} {ds : List D} (h : Pure P f ds (.bool true)) {W : World} {vs : Array Value} (hsz : vs.size = ds.length) (hr : ∀ (i : Nat) v d, vs[i]? = some v → ds[i]? = some d → Rep (E0 W) W v d) :
    Calls P f vs W fun e W' => e = .returned (.bool true) ∧ Below W.heap.size W W' := by
  refine (h.2 (E0 W) W vs (memSim0 W) hsz hr).mono ?_
  rintro e W' ⟨v, d, L', E', rfl, rfl, ev, _, hrep⟩
  rw [Rep.bool_inv hrep]
  exact ⟨rfl, below_of_ev ev⟩

def RepL (W : World) (vs : List Value) (cs : List D) : Prop := vs.length = cs.length ∧ ∀ (i : Nat) v c, vs[i]? = some v → cs[i]? = some c → Rep (E0 W) W v c
theorem RepL.agg {W : World} {vs : Array Value} {cs : List D} (h : RepL W vs.toList cs) : Rep (E0 W) W (.agg vs) (.agg cs) :=
  .agg vs cs (by simpa using h.1) fun i v d h1 h2 => h.2 i v d (by simpa using h1) h2
theorem RepL.one {W : World} {v : Value} {d : D} (h : Rep (E0 W) W v d) : RepL W [v] [d] := by
  refine ⟨rfl, fun i v' c h1 h2 => ?_⟩
  match i, h1, h2 with
  | 0, h1, h2 => simp at h1 h2; subst h1; subst h2; exact h
theorem RepL.nil {W : World} {vs : List Value} {n : Nat} (h : vs.length = n) : RepL W (vs.drop n) [] := by
  rw [List.drop_eq_nil_of_le (by omega)]; exact ⟨rfl, by simp⟩
theorem RepL.app {W : World} {vs : List Value} {c1 c2 : List D} {n : Nat} (h1 : RepL W (vs.take n) c1) (hn : c1.length = n) (h2 : RepL W (vs.drop n) c2) : RepL W vs (c1 ++ c2) := by
  have hle : n ≤ vs.length := by have := h1.1; rw [List.length_take, hn] at this; omega
  refine ⟨by rw [List.length_append, ← h2.1, List.length_drop, hn]; omega, fun i v c g1 g2 => ?_⟩
  by_cases hi : i < n
  · rw [List.getElem?_append_left (by omega)] at g2
    exact h1.2 i v c (by rw [List.getElem?_take, if_pos hi]; exact g1) g2
  · rw [List.getElem?_append_right (by omega)] at g2
    refine h2.2 (i - n) v c ?_ (by rw [← hn]; exact g2)
    rw [List.getElem?_drop, show n + (i - n) = i by omega]; exact g1
theorem RepL.seg {W : World} {vs : List Value} {c1 c2 : List D} {a n : Nat} (h1 : RepL W ((vs.drop a).take n) c1) (hn : c1.length = n) (h2 : RepL W (vs.drop (a + n)) c2) : RepL W (vs.drop a) (c1 ++ c2) :=
  .app h1 hn (by rw [List.drop_drop]; exact h2)

/-- How values of a type are read as data. -/
structure Opens {α : Type} (P : Program) (t : TypeId) (Q : α → Prop) (enc : α → List D) (n : Nat) : Prop where
  size : P.cellsOf t = n
  len : ∀ x, (enc x).length = n
  free : ∀ x, D.freeAll (enc x) = true
  opens : ∀ {H : Type} (en : TypeId × Value → H) (W : World) (fuel : Nat) (vs : List Value) (x : DataW H × List MemPlace), DataW.trod en P W 0 (fun _ => true) true fuel t vs = some x → ∃ a : α, Q a ∧ RepL W vs (enc a)

section
variable {P : Program}
theorem opens_int {t : TypeId} {k : IntKind} (hs : P.cellsOf t = 1) [ht : TIntK P t k] : Opens P t (fun n : Int => k.min ≤ n ∧ n ≤ k.max) (one1 (D.int k)) 1 :=
  ⟨hs, fun _ => rfl, fun _ => rfl, fun en W fuel vs x h => by
    obtain ⟨n, rfl, _, hw⟩ := DataW.trod_int ht.out h
    exact ⟨n, by simpa [Lit.wf] using hw, .one (.int k n)⟩⟩
theorem canon_wf {k : FloatKind} {b : Nat} (h : (Lit.float k b).wf = true) : (Lit.float k (canon k b)).wf = true := by
  cases hn : isNanB k b with
  | false => rw [canon_not hn]; exact h
  | true => rw [canon_nan hn]; cases k <;> rfl
theorem opens_float {t : TypeId} {k : FloatKind} (hs : P.cellsOf t = 1) [ht : TFloatK P t k] : Opens P t (fun m : Nat => (Lit.float k m).wf = true) (one1 (D.flt k)) 1 :=
  ⟨hs, fun _ => rfl, fun _ => rfl, fun en W fuel vs x h => by
    have : ∃ b, vs = [.float k b] ∧ (Lit.float k b).wf = true := by
      cases fuel with
      | zero => simp [DataW.trod] at h
      | succ m =>
        unfold DataW.trod at h
        rw [ht.out] at h
        split at h <;> simp_all
    obtain ⟨b, rfl, hw⟩ := this
    exact ⟨canon k b, canon_wf hw, .one (.flt k b _ rfl)⟩⟩
theorem opens_bool {t : TypeId} (hs : P.cellsOf t = 1) [ht : TyBool P t] : Opens P t (fun _ : Bool => True) (one1 D.bool) 1 :=
  ⟨hs, fun _ => rfl, fun _ => rfl, fun en W fuel vs x h => by
    obtain ⟨b, rfl, _⟩ := DataW.trod_bool ht.out h
    exact ⟨b, trivial, .one (.bool b)⟩⟩

def fldTB (P : Program) (t i off ft : Nat) : Bool := match P.underlying t with
  | some (.struct fs) => match fs[i]? with
    | some f => f.offset == off && f.type == ft
    | none => false
  | _ => false
theorem open_fld {α : Type} {t i off ft m : Nat} {Q : α → Prop} {enc : α → List D} (hf : fldTB P t i off ft = true) (o : Opens P ft Q enc m) {H : Type} {en : TypeId × Value → H} {W : World} {fuel : Nat} {vs : List Value} {x : DataW H × List MemPlace}
    (h : DataW.trod en P W 0 (fun _ => true) true fuel t vs = some x) : ∃ a : α, Q a ∧ RepL W ((vs.drop off).take m) (enc a) := by
  unfold fldTB at hf
  split at hf
  · rename_i fs hu
    split at hf
    · rename_i f hfi
      simp only [Bool.and_eq_true, beq_iff_eq] at hf
      obtain ⟨rfl, rfl⟩ := hf
      obtain ⟨xs, n, rfl, rfl, _, hl, hx⟩ := DataW.trod_struct hu h
      have hi : i < xs.length := by rw [hl]; exact (Array.getElem?_eq_some_iff.1 hfi).1
      have := hx i f hfi
      rw [List.getElem?_eq_getElem hi, o.size] at this
      exact o.opens en W n _ _ this
    · cases hf
  · cases hf
theorem struct_len {t : TypeId} {n : Nat} {fs : Array Field} (hu : P.underlying t = some (.struct fs)) (hs : P.cellsOf t = n) {H : Type} {en : TypeId × Value → H} {W : World} {fuel : Nat} {vs : List Value} {x : DataW H × List MemPlace}
    (h : DataW.trod en P W 0 (fun _ => true) true fuel t vs = some x) : vs.length = n := by
  obtain ⟨xs, m, rfl, rfl, h1, _⟩ := DataW.trod_struct hu h
  rw [h1, hs]

theorem all_of_each {α : Type} {n : Nat} {R : Nat → α → Prop} (h : ∀ i, i < n → ∃ x, R i x) : ∃ xs : List α, xs.length = n ∧ ∀ i (hi : i < xs.length), R i xs[i] := by
  induction n with
  | zero => exact ⟨[], rfl, fun i hi => by simp at hi⟩
  | succ n ih =>
    obtain ⟨xs, h1, h2⟩ := ih fun i hi => h i (by omega)
    obtain ⟨x, hx⟩ := h n (by omega)
    refine ⟨xs ++ [x], by simp [h1], fun i hi => ?_⟩
    by_cases e : i < xs.length
    · rw [List.getElem_append_left e]; exact h2 i e
    · have : i = n := by simp at hi; omega
      subst this
      rw [List.getElem_append_right (by omega)]
      simpa [h1] using hx
def slcTB (P : Program) (t et : Nat) : Bool := match P.underlying t with
  | some (.slice e) => e == et
  | _ => false
def arrTB (P : Program) (t n et : Nat) : Bool := match P.underlying t with
  | some (.array m e) => m == n && e == et
  | _ => false
theorem flat_get {α : Type} {enc : α → List D} {es : Nat} (hf : ∀ x, (enc x).length = es) {xs : List α} {j : Nat} {d : D} (h0 : 0 < es) (h : (xs.flatMap enc)[j]? = some d) : ∃ hi : j / es < xs.length, (enc xs[j / es])[j % es]? = some d := by
  have hl : j < xs.length * es := by rw [← flat_length hf]; exact (List.getElem?_eq_some_iff.1 h).1
  have hi : j / es < xs.length := (Nat.div_lt_iff_lt_mul h0).2 hl
  refine ⟨hi, ?_⟩
  have h1 := drop_enc hf hi
  have h2 : ((xs.flatMap enc).drop (j / es * es))[j % es]? = some d := by
    rw [List.getElem?_drop, Nat.mul_comm, Nat.div_add_mod]; exact h
  rw [h1, List.getElem?_append_left (by rw [hf]; exact Nat.mod_lt _ h0)] at h2
  exact h2
theorem free_flat' {α : Type} {enc : α → List D} (h : ∀ x, D.freeAll (enc x) = true) (xs : List α) : D.freeAll (xs.flatMap enc) = true := by
  rw [D.freeAll_iff]
  intro d hd
  obtain ⟨x, _, hx⟩ := List.mem_flatMap.1 hd
  exact (D.freeAll_iff _).1 (h x) d hx
theorem addr_add_add (a : Addr) (i j : Nat) : (a.add i).add j = a.add (i + j) := by
  unfold Addr.add
  by_cases hi : i = 0 <;> by_cases hj : j = 0 <;> simp [hi, hj, Nat.add_assoc]
theorem addr_add_zero (a : Addr) : a.add 0 = a := by simp [Addr.add]
theorem cell_spot {W : World} {a : Addr} {v : Value} (h : W.cell? a = some v) : a.spot = none ∧ a.block < W.heap.size := by
  unfold World.cell? at h
  split at h
  · rename_i hb
    split at h
    · cases h
    · rename_i hs
      exact ⟨by simpa using hs, (Array.getElem?_eq_some_iff.1 hb).1⟩
  · cases h
theorem opens_slice {α : Type} {t et m : Nat} {Q : α → Prop} {enc : α → List D} (hs : P.cellsOf t = 1) (hu : slcTB P t et = true) (h0 : 0 < m) (o : Opens P et Q enc m) : Opens P t (fun xs : List α => xs.length ≤ maxLen ∧ ∀ x ∈ xs, Q x) (fun xs => [sl m enc xs]) 1 := by
  refine ⟨hs, fun _ => rfl, fun _ => rfl, fun en W fuel vs x h => ?_⟩
  unfold slcTB at hu
  split at hu
  · rename_i e he
    obtain rfl : e = et := by simpa using hu
    rcases Go.Deep.open_slice he h with ⟨rfl, _⟩ | ⟨a, len, cap, m', n, Dd, Pl, rfl, _, hlc, hcm, hm', _, hel⟩
    · exact ⟨[], ⟨Nat.zero_le _, by simp⟩, .one (.slc none 0 0 m [] 0 0 (fun _ => .bool false) (by simp) (Nat.le_refl _) (Nat.zero_le _) (by simp) (by simp) (by simp) rfl)⟩
    · have hlen : len ≤ m' := by rw [hm']; split <;> omega
      rw [o.size] at hel
      obtain ⟨xs, hxl, hxs⟩ := all_of_each (n := len) (R := fun i (y : α) => ∃ cs', W.cells? 0 (a.add (i * m)) m = some cs' ∧ Q y ∧ RepL W cs' (enc y)) fun i hi => by
        obtain ⟨cs', h1, h2⟩ := hel i (by omega)
        obtain ⟨y, h3, h4⟩ := o.opens en W n cs' _ h2
        exact ⟨y, cs', h1, h3, h4⟩
      refine ⟨xs, ⟨by omega, fun x hx => ?_⟩, .one ?_⟩
      · obtain ⟨i, hi, rfl⟩ := List.getElem_of_mem hx
        obtain ⟨_, _, hq, _⟩ := hxs i hi
        exact hq
      · have key : ∀ (j : Nat) d, (xs.flatMap enc)[j]? = some d → ∃ v, W.cell? (a.add j) = some v ∧ Rep (E0 W) W v d := fun j d hd => by
          obtain ⟨hi, hd'⟩ := flat_get o.len h0 hd
          obtain ⟨cs', h1, _, h3⟩ := hxs (j / m) hi
          obtain ⟨_, h5, h6⟩ := World.cells?_some h1
          have hr : j % m < m := Nat.mod_lt _ h0
          have h7 := h6 (j % m) hr
          rw [addr_add_add, Nat.mul_comm, Nat.div_add_mod] at h7
          rw [List.getElem?_eq_getElem (by omega)] at h7
          exact ⟨_, h7, h3.2 (j % m) _ d (List.getElem?_eq_getElem (by omega)) hd'⟩
        refine .slc (some a) len cap m _ a.block a.off (fun j => (W.cell? (a.add j)).getD (.bool false)) (by rw [flat_length o.len, hxl]) hlc (by omega) (fun hne => ?_) (fun j d hd => ?_) (fun j d hd => ?_) (free_flat' o.free xs)
        · have hpos : 0 < (xs.flatMap enc).length := List.length_pos_iff.2 hne
          obtain ⟨v, hv, _⟩ := key 0 _ (List.getElem?_eq_getElem hpos)
          rw [addr_add_zero] at hv
          obtain ⟨h1, h2⟩ := cell_spot hv
          exact ⟨by obtain ⟨b, off, sp⟩ := a; simp only at h1; subst h1; rfl, h2⟩
        · obtain ⟨v, hv, _⟩ := key j d hd
          rw [hv]
          have hpos : 0 < (xs.flatMap enc).length := Nat.lt_of_le_of_lt (Nat.zero_le _) (List.getElem?_eq_some_iff.1 hd).1
          obtain ⟨v0, hv0, _⟩ := key 0 _ (List.getElem?_eq_getElem hpos)
          rw [addr_add_zero] at hv0
          obtain ⟨h1, _⟩ := cell_spot hv0
          obtain ⟨b, off, sp⟩ := a
          simp only at h1; subst h1
          rw [Addr.add_lit] at hv
          simpa using hv
        · obtain ⟨v, hv, hr⟩ := key j d hd
          rw [hv]; exact hr
  · cases hu
theorem opens_array {α : Type} [Nonempty α] {t n et m : Nat} {Q : α → Prop} {enc : α → List D} (hs : P.cellsOf t = n * m) (hu : arrTB P t n et = true) (o : Opens P et Q enc m) : Opens P t (fun f : Nat → α => ∀ i, i < n → Q (f i)) (fun f => (List.range n).flatMap fun i => enc (f i)) (n * m) := by
  refine ⟨hs, fun f => by rw [flat_length (es := m) (fun i => o.len (f i)), List.length_range], fun f => free_flat' (fun i => o.free (f i)) _, fun en W fuel vs x h => ?_⟩
  unfold arrTB at hu
  split at hu
  · rename_i n' e he
    simp only [Bool.and_eq_true, beq_iff_eq] at hu
    obtain ⟨rfl, rfl⟩ := hu
    obtain ⟨xs, k, rfl, rfl, hl, hxl, hx⟩ := DataW.trod_array he h
    rw [o.size] at hx
    obtain ⟨ys, hyl, hys⟩ := all_of_each (n := n') (R := fun i (y : α) => Q y ∧ RepL W ((vs.drop (i * m)).take m) (enc y)) fun i hi => by
      have := hx i hi
      rw [List.getElem?_eq_getElem (by omega)] at this
      exact o.opens en W k _ _ this
    refine ⟨fun i => ys.getD i (Classical.choice inferInstance), fun i hi => ?_, ?_⟩
    · have hi' : i < ys.length := by omega
      simp only [List.getD, List.getElem?_eq_getElem hi', Option.getD_some]
      exact (hys i hi').1
    · have aux : ∀ k i, i + k = n' → RepL W (vs.drop (i * m)) ((List.range' i k).flatMap fun j => enc (ys.getD j (Classical.choice inferInstance))) := by
        intro k
        induction k with
        | zero =>
          intro i hi
          have : vs.length = i * m := by rw [hl, hs]; congr 1; omega
          exact .nil this
        | succ k ih =>
          intro i hi
          rw [List.range'_succ, List.flatMap_cons]
          have hi' : i < ys.length := by omega
          refine .seg (n := m) ?_ (o.len _) ?_
          · simp only [List.getD, List.getElem?_eq_getElem hi', Option.getD_some]
            exact (hys i hi').2
          · rw [← Nat.succ_mul]
            exact ih (i + 1) (by omega)
      have := aux n' 0 (by omega)
      rw [List.range_eq_range']
      simpa using this
  · cases hu
theorem Opens.mono {α : Type} {t n : Nat} {Q Q' : α → Prop} {enc : α → List D} (o : Opens P t Q enc n) (h : ∀ x, Q x → Q' x) : Opens P t Q' enc n :=
  ⟨o.size, o.len, o.free, fun en W fuel vs x hx => by
    obtain ⟨a, h1, h2⟩ := o.opens en W fuel vs x hx
    exact ⟨a, h a h1, h2⟩⟩
theorem hasStruct {t : TypeId} {i off ft : Nat} (h : fldTB P t i off ft = true) : ∃ fs, P.underlying t = some (.struct fs) := by
  unfold fldTB at h
  split at h
  · rename_i fs hu; exact ⟨fs, hu⟩
  · cases h
end
end Go.Proofs.YtcgocdcbceeoiaaGreat
