/-
  Loops whose variables grow in number; literals of slices, structs and arrays; strings put together and compared.
-/
import Derived.Test.YtcgocdcbceeoiaaGreatA19
import Derived.Test.YtcgocdcbceeoiaaGreatA18
import Derived.Great.FillDense
import Derived.Laws.Tables
namespace Go.Proofs.YtcgocdcbceeoiaaGreat
open Go

section
variable {P : Program} {Q : Exit → St → Prop} {s : St}
/-- A loop whose head may know ever more variables. -/
theorem AW_loop_up {c : Code} {α : Type} (f : α → St) (I : α → Prop) (μ : α → Nat) (hk : ∀ x, I x → s.loc.length ≤ (f x).loc.length) (x0 : α) (h0 : I x0) (hl : Loosens s (f x0))
    (round : ∀ x, I x → AW P c (thenQ (fun s' => ∃ y, I y ∧ μ y < μ x ∧ Loosens s' (f y)) Q) (f x)) : AW P (.loop c) Q s := by
  intro E a w hS
  obtain ⟨E0, hS0, hEv0⟩ := hl E a w hS
  have hn0 : E0.n = (f x0).loc.length := hS0.mem.n
  have hEn : E.n = s.loc.length := hS.mem.n
  have := hk x0 h0
  have ev0 := hEv0 E w (by omega) (Ev.refl E w)
  refine wp_loop_ghost (fun n a' w' => ∃ x E', μ x = n ∧ I x ∧ Sim E' (f x) a' w' ∧ Ev E w E' w') (μ x0) ⟨x0, E0, rfl, h0, hS0, ev0⟩ ?_
  rintro n a1 w1 ⟨x, E1, rfl, hI, hS1, ev1⟩
  refine wp_mono (round x hI E1 a1 w1 hS1) fun e a2 w2 ⟨s2, E2, q, hS2, ev2⟩ => ?_
  cases e with
  | normal =>
    obtain ⟨y, hy, hlt, hl2⟩ := q
    obtain ⟨E3, hS3, hev3⟩ := hl2 E2 a2 w2 hS2
    have hn3 : E3.n = (f y).loc.length := hS3.mem.n
    have := hk y hy
    exact ⟨μ y, hlt, y, E3, rfl, hy, hS3, hev3 E w (by omega) (ev1.trans ev2)⟩
  | exit _ => exact ⟨s2, E2, q, hS2, ev1.trans ev2⟩
  | goto _ => exact ⟨s2, E2, q, hS2, ev1.trans ev2⟩
  | ret => exact ⟨s2, E2, q, hS2, ev1.trans ev2⟩
  | panic _ => exact ⟨s2, E2, q, hS2, ev1.trans ev2⟩
  | outgrown => exact ⟨s2, E2, q, hS2, ev1.trans ev2⟩
theorem AW_loop_of_up {c : Code} {α : Type} (sz : Nat) (f : α → List (Nat × D)) (L : α → Loc) (I : α → Prop) (μ : α → Nat) (hk : ∀ x, I x → s.loc.length ≤ (L x).length) (x0 : α) (h0 : I x0)
    (hl : Loosens s (stOf sz (f x0) (L x0)))
    (round : ∀ x, I x → AW P c (thenQ (fun s' => ∃ y, I y ∧ μ y < μ x ∧ Loosens s' (stOf sz (f y) (L y))) Q) (stOf sz (f x) (L x))) : AW P (.loop c) Q s :=
  AW_loop_up (fun x => stOf sz (f x) (L x)) I μ hk x0 h0 hl round
end

/-- A block that nobody keeps. -/
theorem junk_block {E : Env} {L : Loc} {w : World} (hm : MemSim E L w) (ob : Obj) : Ev E w E (w.alloc ob) ∧ MemSim E L (w.alloc ob) := by
  have hsz : (w.alloc ob).heap.size = w.heap.size + 1 := by simp
  have hold : ∀ b, b < w.heap.size → (w.alloc ob).heap[b]? = w.heap[b]? := fun b hb => heap_alloc_old w _ b hb
  have ev : Ev E w E (w.alloc ob) := by
    refine ⟨rfl, rfl, rfl, by omega, rfl, fun _ h => h, fun b hb => hold b ?_, fun b h => .inl h, fun id b cap' h1 h2 h3 => .inr ⟨id, cap', h1, h2, h3⟩, Nat.le_refl _, fun id hi g' h => ⟨g', h, Nat.le_refl _, fun _ => rfl⟩⟩
    rcases hb with hb | hb
    · exact hm.ltS b hb
    · exact hm.ltF b hb
  refine ⟨ev, hm.n, hm.c, fun id B hB => ?_, hm.sep, fun b h => by have := hm.ltS b h; omega, fun b h => by have := hm.ltF b h; omega⟩
  rcases hm.box id B hB with h | ⟨b, cap, cur, t, h1, h2, h3, h4, h5, h6, h7⟩
  · exact .inl h
  · exact .inr ⟨b, cap, cur, t, h1, h2, h3, by rw [hold b (Array.getElem?_eq_some_iff.1 h4).1]; exact h4, h5, h6, fun i v d g1 g2 => (h7 i v d g1 g2).ev ev⟩

section
variable {P : Program} {o : Oper} {s : St} {K : St → Prop}
/-- An empty literal. -/
theorem QOp_lit0 {t es : Nat} {ag : Bool} [ht : TSlc P t es ag] (ho : o.op = .buildSlice t 0 #[]) : QOp P o s .emp := by
  intro E a w _ _ _ hm
  obtain ⟨e, h1, ⟨de, inf, h2, h3, h4, h5, h6⟩⟩ := ht.out
  have hrun : (execOp a.eval o).run P w = .ok (.value (.slice (some ⟨w.heap.size, 0, none⟩) 0 0)) (w.alloc (.cells #[] e)) := by
    simp [execOp, ho, Instr.buildSlice, run_underlying h1, run_sizeOf (P := P) (n := es) ⟨inf, h4, h5⟩, Instr.fill, newRow]
    exact congrArg (fun x => w.alloc (Obj.cells x e)) (Array.eq_empty_of_size_eq_zero (by simp))
  obtain ⟨ev, hm'⟩ := junk_block hm (.cells #[] e)
  unfold Oper.wp
  rw [hrun]
  exact ⟨_, E, rfl, .emp _, hm', ev⟩

/-- Parts put into cells. -/
def fillL (L : Loc) (place : Nat → Option (Nat × Nat)) : List D → List (Nat × D) → Option (List D)
  | cs, [] => some cs
  | cs, (i, d) :: r => match place i, cellsD L d with
    | some (off, size), some ds => if ds.length = size ∧ off + size ≤ cs.length then fillL L place (spl cs off ds) r else none
    | _, _ => none

theorem fill_rep {E : Env} {L : Loc} {w : World} (hm : MemSim E L w) (place : Nat → Option (Nat × Nat)) : ∀ (ps : List (Nat × Value)) (dps : List (Nat × D)) (cells : Array Value) (cs out : List D),
    ps.length = dps.length → (∀ (i : Nat) p q, ps[i]? = some p → dps[i]? = some q → p.1 = q.1 ∧ Rep E w p.2 q.2) → cells.size = cs.length → (∀ (i : Nat) v d, cells[i]? = some v → cs[i]? = some d → Rep E w v d) →
    fillL L place cs dps = some out → ∃ r, Instr.fill place cells ps = some r ∧ r.size = out.length ∧ ∀ (i : Nat) v d, r[i]? = some v → out[i]? = some d → Rep E w v d
  | [], [], cells, cs, out, _, _, hs, hr, h => by
    simp only [fillL, Option.some.injEq] at h
    subst h
    exact ⟨cells, rfl, hs, hr⟩
  | [], _ :: _, _, _, _, hl, _, _, _, _ => by simp at hl
  | _ :: _, [], _, _, _, hl, _, _, _, _ => by simp at hl
  | (i, v) :: ps, (j, d) :: dps, cells, cs, out, hl, hp, hs, hr, h => by
    obtain ⟨e1, hv⟩ := hp 0 _ _ rfl rfl
    simp only at e1 hv
    subst e1
    simp only [fillL] at h
    split at h
    · rename_i off size ds h1 h2
      split at h
      · rename_i hfit
        obtain ⟨g1, g2, _⟩ := cells_rep hm hv h2
        obtain ⟨k1, k2⟩ := Go.Great.foldl_set off v.cells.toList 0 cells
        have hspl := splice_spl cs off ds (by omega)
        have hlen : (spl cs off ds).length = cs.length := by rw [← hspl]; exact splice_length (by omega)
        obtain ⟨r, q1, q2, q3⟩ := fill_rep hm place ps dps ((v.cells.toList.zipIdx 0).foldl (fun cs (x : Value × Nat) => cs.setIfInBounds (off + x.2) x.1) cells) (spl cs off ds) out (by simpa using hl)
          (fun n p q a b => hp (n + 1) p q (by simpa using a) (by simpa using b)) (by rw [k1, hs, hlen]) (fun n u c a b => by
            rw [k2 n] at a
            rw [← hspl] at b
            simp only [Nat.add_zero, Array.length_toList] at a
            unfold splice at b
            by_cases c1 : n < off
            · rw [if_neg (by omega)] at a
              rw [List.getElem?_append_left (by simp; omega), List.getElem?_append_left (by simp; omega), List.getElem?_take, if_pos c1] at b
              exact hr n u c a b
            · by_cases c2 : n < off + ds.length
              · rw [if_pos (by omega)] at a
                rw [List.getElem?_append_left (by simp; omega), List.getElem?_append_right (by simp; omega)] at b
                simp only [List.length_take] at b
                rw [show min off cs.length = off by omega] at b
                exact g2 (n - off) u c (by simpa using a) b
              · rw [if_neg (by omega)] at a
                rw [List.getElem?_append_right (by simp; omega), List.getElem?_drop] at b
                simp only [List.length_append, List.length_take] at b
                rw [show off + ds.length + (n - (min off cs.length + ds.length)) = n by omega] at b
                exact hr n u c a b) h
        refine ⟨r, ?_, q2, q3⟩
        unfold Instr.fill
        rw [h1]
        simp only
        rw [if_neg (by simp; omega), ← q1]
        congr 1
        rw [← Array.foldl_toList, Array.toList_zipIdx]
      · cases h
    · cases h

theorem zip_parts {E : Env} {w : World} {a : Act} {parts : Array (Nat × Operand)} (hr : ∀ x ∈ parts.toList.map (·.2), Rep E w (a.eval x) (s.ev x)) :
    ((parts.map fun (i, x) => (i, a.eval x)).toList.length = (parts.toList.map fun p => (p.1, s.ev p.2)).length) ∧
    ∀ (i : Nat) p q, (parts.map fun (i, x) => (i, a.eval x)).toList[i]? = some p → (parts.toList.map fun p => (p.1, s.ev p.2))[i]? = some q → p.1 = q.1 ∧ Rep E w p.2 q.2 := by
  refine ⟨by simp, fun i p q h1 h2 => ?_⟩
  simp only [Array.toList_map, List.getElem?_map, Option.map_eq_some_iff] at h1 h2
  obtain ⟨x, hx, rfl⟩ := h1
  obtain ⟨y, hy, rfl⟩ := h2
  rw [hx] at hy
  cases hy
  exact ⟨rfl, hr _ (List.mem_map.2 ⟨x, List.mem_of_getElem? hx, rfl⟩)⟩

/-- A literal of a slice: a new variable. -/
theorem SOp_lit {t es bytes len : Nat} {zs : List D} {parts : Array (Nat × Operand)} {cs : List D} [ht : TRow P t es bytes zs] (ho : o.op = .buildSlice t len parts) (h0 : decide (0 < len) = true) (hbig : decide (len * es ≤ 16777216) = true)
    (hf : fillL s.loc (fun i => some (i * es, es)) (List.replicate len zs).flatten (parts.toList.map fun p => (p.1, s.ev p.2)) = some cs) (hn : cs.length = len * es) (hd : dstOk o s = true)
    (hK : K ((s.push ⟨es, cs⟩).put o.dst (.row s.loc.length (len * es) es len))) : SOp P o K s := by
  obtain ⟨e, i, z, t1, t2, t3, t4, t5, t6, t7, t8⟩ := ht.out
  have h0 := of_decide_eq_true h0
  have hbig := of_decide_eq_true hbig
  have hzl : zs.length = es := by rw [← t8]; simp [t7]
  refine SOp_new ⟨es, cs⟩ _ hd (fun E a w hs => ?_) hK
  have hrep : ∀ x ∈ parts.toList.map (·.2), Rep E w (a.eval x) (s.ev x) := fun x _ => rep_ev hs.reg x
  obtain ⟨p1, p2⟩ := zip_parts (s := s) hrep
  have hpos : 0 < len * es := Nat.mul_pos h0 t5
  obtain ⟨r, r1, r2, r3⟩ := fill_rep hs.mem (fun i => some (i * es, es)) _ _ ((Array.range (len * es)).map (z.cells[· % z.cells.size]!)) (List.replicate len zs).flatten cs p1 p2 (by rw [length_rep_flat hzl]; simp) (fun n v d g1 g2 => by
    have hnlt : n < len * es := by
      have := (Array.getElem?_eq_some_iff.1 g1).1
      simpa using this
    rw [get_rep_flat hzl len n hnlt] at g2
    have hmod : n % es < z.cells.size := by rw [t7]; exact Nat.mod_lt _ t5
    simp only [Array.getElem?_map, Array.getElem?_range, hnlt, if_true, Option.map_some, Option.some.injEq, t7] at g1
    rw [← t8] at g2
    simp only [List.getElem?_map, Array.getElem?_toList] at g2
    rw [Array.getElem?_eq_getElem hmod] at g2
    simp only [Option.map_some, Option.some.injEq] at g2
    subst g2
    subst g1
    rw [getElem!_pos z.cells (n % es) hmod]
    exact rep_ofV1 E w _) hf
  have hrsz : r.size = len * es := by rw [r2, hn]
  refine ⟨r, e, len, .slice (some ⟨w.heap.size, 0, none⟩) len len, ?_, by rw [r2]; exact Nat.le_refl _, fun _ => ⟨⟨len, hn, Nat.le_refl _⟩, by rw [hrsz]; exact Nat.le_refl _, by simp only [maxLen]; have := Nat.le_mul_of_pos_right len t5; omega⟩, r3, ?_⟩
  · have hz : (zeroValue e).run P w = .ok z w := by simp [zeroValue, typeInfo, t2, t3]
    simp only [execOp, ho, Instr.buildSlice, Sem.run_bind, run_underlying t1, Result.andThen_ok, run_sizeOf (P := P) (n := es) ⟨i, t2, t4⟩]
    rw [if_neg (by omega)]
    simp only [Sem.run_bind, Sem.run_pure, Result.andThen_ok, if_neg (show ¬ len * es = 0 by omega), hz]
    rw [r1]
    simp [newRow]
  · refine .row _ _ _ _ _ (by simp [Env.push, hs.mem.n]) (fun g0 hg => ?_) (fun _ => .inr ⟨w.heap.size, len, by simp [Env.push, hs.mem.n], rfl, Nat.le_refl _⟩)
    simp [Env.push, hs.mem.n] at hg
    omega

/-- Where the parts of a struct or an array lie. -/
class TBuild (P : Program) (t : TypeId) (pl : outParam (List (Nat × Nat))) (zs : outParam (List D)) : Prop where
  out : ∃ it z, P.info? t = some it ∧ it.zero = some z ∧ z.cells.toList.map ofV1 = zs ∧ ∀ parts cells, (∀ p ∈ parts, p.1 < pl.length) → Instr.fill (pl[·]?) z.cells parts = some cells → P.built t parts = some cells
def tBuildB (P : Program) (t : TypeId) (pl : List (Nat × Nat)) (zs : List D) : Option (List D) := match P.info? t, P.underlying t with
  | some it, some (.struct fs) => match it.zero with
    | some z => if fs.toList.mapM (fun f => (P.info? f.type).map fun i => (f.offset, i.size)) = some pl then some (z.cells.toList.map ofV1) else none
    | none => none
  | some it, some (.array n e) => match it.zero, P.info? e with
    | some z, some ie => if pl = (List.range n).map (fun i => (i * ie.size, ie.size)) then some (z.cells.toList.map ofV1) else none
    | _, _ => none
  | _, _ => none
theorem fill_congr {p q : Nat → Option (Nat × Nat)} : ∀ (parts : List (Nat × Value)) (cells : Array Value), (∀ x ∈ parts, p x.1 = q x.1) → Instr.fill p cells parts = Instr.fill q cells parts
  | [], cells, _ => rfl
  | (i, v) :: r, cells, h => by
    have hh : p i = q i := h (i, v) (by simp)
    unfold Instr.fill
    rw [hh]
    cases q i with
    | none => rfl
    | some x =>
      obtain ⟨off, size⟩ := x
      simp only
      split
      · rfl
      · exact fill_congr r _ fun x hx => h x (by simp [hx])
theorem tBuild_of {P : Program} {t : TypeId} {pl : List (Nat × Nat)} {zs : List D} (h : tBuildB P t pl zs = some zs) : TBuild P t pl zs := by
  unfold tBuildB at h
  split at h
  · rename_i it fs h1 h2
    split at h
    · rename_i z h3
      split at h
      · rename_i h4
        simp only [Option.some.injEq] at h
        refine ⟨it, z, h1, h3, h, fun parts cells _ hf => ?_⟩
        simp only [Program.built, h1, h2, h3, h4]
        rw [← hf]
        exact fill_congr _ _ fun x _ => by simp
      · cases h
    · cases h
  · rename_i it n e h1 h2
    split at h
    · rename_i z ie h3 h4
      split at h
      · rename_i h5
        simp only [Option.some.injEq] at h
        refine ⟨it, z, h1, h3, h, fun parts cells hp hf => ?_⟩
        simp only [Program.built, h1, h2, h3, h4]
        rw [← hf]
        refine fill_congr _ _ fun x hx => ?_
        have := hp x hx
        rw [h5] at this ⊢
        simp at this
        simp [this]
      · cases h
    · cases h
  · cases h
/-- A literal of a struct or an array. -/
theorem QOp_build {t : Nat} {pl : List (Nat × Nat)} {zs cs : List D} {parts : Array (Nat × Operand)} [ht : TBuild P t pl zs] (ho : o.op = .build t parts) (hp : parts.toList.all (fun p => decide (p.1 < pl.length)) = true)
    (hf : fillL s.loc (pl[·]?) zs (parts.toList.map fun p => (p.1, s.ev p.2)) = some cs) : QOp P o s (.agg cs) :=
  QOp_pure fun E a w h hm => by
    obtain ⟨it, z, t1, t2, t3, t4⟩ := ht.out
    have hrep : ∀ x ∈ parts.toList.map (·.2), Rep E w (a.eval x) (s.ev x) := fun x hx => h x (by
      simp only [ho, Op.operands]
      simpa using hx)
    obtain ⟨p1, p2⟩ := zip_parts (s := s) hrep
    obtain ⟨r, r1, r2, r3⟩ := fill_rep hm (pl[·]?) _ _ z.cells zs cs p1 p2 (by rw [← t3]; simp) (fun n v d g1 g2 => by
      rw [← t3] at g2
      simp only [List.getElem?_map, Array.getElem?_toList, g1, Option.map_some, Option.some.injEq] at g2
      subst g2; exact rep_ofV1 E w v) hf
    refine ⟨.agg r, ?_, .agg r cs r2 r3⟩
    have hb := t4 (parts.map fun (i, x) => (i, a.eval x)).toList r (fun p hp' => by
      simp only [Array.toList_map, List.mem_map] at hp'
      obtain ⟨q, hq, rfl⟩ := hp'
      have := List.all_eq_true.1 hp q hq
      simpa using this) r1
    simp only [execOp, ho, Sem.run_bind, run_build w t _ r hb, Result.andThen_ok, Sem.run_pure]
end
end Go.Proofs.YtcgocdcbceeoiaaGreat
