/-
  Roads, plans, joints, towns: how they lie in memory; floats compared.
-/
import Derived.Test.YtlkepggpppenaaaA15
import Derived.Test.YtlkepggpppenaaaTy
namespace Go.Proofs.Ytlkepggpppenaaa
open Go Go.Proofs
attribute [local irreducible] AW SOps QOps QOp SOp SCall Pure endQ thenQ blockQ Loosens

structure Road where
  cars : Nat → Nat
  pace : Nat
  back : Nat
  lanes : Nat
structure Slot where
  green : Nat → Bool
  ticks : Int
structure Plan where
  slots : List Slot
  between : Int
  offset : Int
structure Junction where
  ins : Int
  outs : Int
  turns : Nat → Nat → Nat
  prior : Nat → Nat
structure Joint where
  j : Junction
  ins : List Int
  outs : List Int
  plan : Int
structure Town where
  roads : List Road
  offered : List Nat
  joints : List Joint
  plans : List Plan
  tick : Int
  came : Nat
  went : Nat

abbrev encFour (f : Nat → Nat) : List D := arr 4 fun i => F (f i)
abbrev encFlows (m : Nat → Nat → Nat) : List D := (List.range 4).flatMap fun i => encFour (m i)
abbrev encCars (f : Nat → Nat) : List D := arr 16 fun i => F (f i)
abbrev encPhase (f : Nat → Bool) : List D := arr 8 fun i => .bool (f i)
def encRoad (r : Road) : List D := encCars r.cars ++ [F r.pace, F r.back, F r.lanes]
def encSlot (s : Slot) : List D := encPhase s.green ++ [I s.ticks]
def encPlan (p : Plan) : List D := [sl 9 encSlot p.slots, I p.between, I p.offset]
def encJunction (j : Junction) : List D := [I j.ins, I j.outs] ++ encFlows j.turns ++ encFour j.prior
def encJoint (j : Joint) : List D := encJunction j.j ++ [sl 1 (one1 I) j.ins, sl 1 (one1 I) j.outs, I j.plan]
def encTown (t : Town) : List D := [sl 19 encRoad t.roads, sl 1 (one1 F) t.offered, sl 25 encJoint t.joints, sl 3 encPlan t.plans, I t.tick, F t.came, F t.went]

theorem encRoad_length (r : Road) : (encRoad r).length = 19 := rfl
theorem encSlot_length (s : Slot) : (encSlot s).length = 9 := rfl
theorem encPlan_length (p : Plan) : (encPlan p).length = 3 := rfl
theorem encJunction_length (j : Junction) : (encJunction j).length = 22 := rfl
theorem encJoint_length (j : Joint) : (encJoint j).length = 25 := rfl
theorem encTown_length (t : Town) : (encTown t).length = 7 := rfl

theorem free_append {a b : List D} (h : D.freeAll a = true) (k : D.freeAll b = true) : D.freeAll (a ++ b) = true := by
  rw [D.freeAll_iff] at *
  intro d hd
  rcases List.mem_append.1 hd with h' | h'
  · exact h d h'
  · exact k d h'
theorem free_flat {α : Type} {enc : α → List D} (h : ∀ x, D.freeAll (enc x) = true) (xs : List α) : D.freeAll (xs.flatMap enc) = true := by
  rw [D.freeAll_iff]
  intro d hd
  obtain ⟨x, _, hx⟩ := List.mem_flatMap.1 hd
  exact (D.freeAll_iff _).1 (h x) d hx
theorem free_arr {n : Nat} {f : Nat → D} (h : ∀ i, (f i).free = true) : D.freeAll (arr n f) = true := by
  rw [D.freeAll_iff]
  intro d hd
  obtain ⟨i, _, rfl⟩ := List.mem_map.1 hd
  exact h i
theorem encFour_free (f : Nat → Nat) : D.freeAll (encFour f) = true := free_arr fun _ => rfl
theorem encCars_free (f : Nat → Nat) : D.freeAll (encCars f) = true := free_arr fun _ => rfl
theorem encPhase_free (f : Nat → Bool) : D.freeAll (encPhase f) = true := free_arr fun _ => rfl
theorem encFlows_free (m : Nat → Nat → Nat) : D.freeAll (encFlows m) = true := free_flat (fun _ => encFour_free _) _
theorem encRoad_free (r : Road) : D.freeAll (encRoad r) = true := rfl
theorem encSlot_free (s : Slot) : D.freeAll (encSlot s) = true := rfl
theorem encPlan_free (p : Plan) : D.freeAll (encPlan p) = true := rfl
theorem encJunction_free (j : Junction) : D.freeAll (encJunction j) = true := rfl
theorem encJoint_free (j : Joint) : D.freeAll (encJoint j) = true := rfl
theorem encTown_free (t : Town) : D.freeAll (encTown t) = true := rfl

/-- The bits of a float, all NaN alike. -/
def bits32 (m : Nat) : Nat := if isNanB .f32 m then 2143289344 else m
def fsame (a b : Nat) : Bool := bits32 a == bits32 b

class Zero1 (α : Type) where
  zero1 : α → α
instance : Zero1 Nat := ⟨fun _ => 0⟩
instance : Zero1 Bool := ⟨fun _ => false⟩
theorem beq_cast (x y : Nat) : ((x : Int) == (y : Int)) = (x == y) := by rw [Bool.eq_iff_iff]; simp; omega

theorem bitsOf_ok (m : Nat) : Pure Try.prog 44 [F m] (.int .u32 (bits32 m)) := by
  first | refine Pure_of_AW _ _ Try.func44 (by decide) rfl Try.ntmps44 Try.results44 (by simp) ?_ | refine SCall_of_AW _ _ Try.func44 (by decide) rfl Try.ntmps44 Try.results44 (by simp) ?_
  repeat' (first | (apply S_q; (first | exact .free rfl | exact .asked _ _ _ _ _ rfl rfl rfl rfl); (first | exact QOp_bits32 rfl rfl (not_nan_of_feq (by simpa using hsp)) | exact Q_mv rfl (by conv => lhs; whnf) | exact QOp_icmp rfl rfl rfl rfl rfl | exact QOp_add64 rfl rfl rfl (by omega) | exact QOp_sub64 rfl rfl rfl (by omega) | exact QOp_iarith rfl rfl rfl rfl rfl | exact Q_pick_t rfl rfl (by conv => lhs; whnf) | exact Q_pick_f rfl rfl (by conv => lhs; whnf) | exact QOp_not rfl rfl | exact QOp_extract rfl rfl rfl | exact QOp_load rfl rfl rfl | exact QOp_fieldAddr_p rfl rfl rfl | exact QOp_fieldAddr_s rfl rfl | exact QOp_field rfl rfl rfl | exact QOp_nilCheck rfl rfl rfl | exact QOp_len_sl rfl rfl | exact QOp_len_str rfl rfl | exact QOp_len_emp rfl rfl | exact QOp_len_arr rfl | exact QOp_fn rfl | exact QOp_beq rfl rfl rfl | exact QOp_bne rfl rfl rfl | exact QOp_fcmp rfl rfl rfl rfl rfl | exact QOp_farith rfl rfl rfl rfl | exact QOp_widen rfl rfl | exact QOp_itof rfl rfl | exact QOp_bits32 rfl rfl (by assumption) | exact QOp_aeq rfl rfl rfl rfl | exact QOp_ane rfl rfl rfl rfl | exact QOp_slice_pa rfl rfl rfl | exact QOp_slice_sa rfl rfl (by decide) (by decide) | exact QOp_indexAddr_s rfl rfl rfl (by constructor <;> first | omega | (simp; omega) | (simp; done)) | exact QOp_indexAddr_m rfl rfl rfl rfl (by omega) | exact QOp_indexAddr_r rfl rfl rfl rfl (by omega) | exact QOp_indexAddr_pa rfl rfl rfl rfl (by omega) | exact QOp_indexAddr_sa rfl rfl rfl (by omega)); exact rfl) | (apply D_q; (first | exact .free rfl | exact .asked _ _ _ _ _ rfl rfl rfl rfl); (first | exact QOp_bits32 rfl rfl (not_nan_of_feq (by simpa using hsp)) | exact Q_mv rfl (by conv => lhs; whnf) | exact QOp_icmp rfl rfl rfl rfl rfl | exact QOp_add64 rfl rfl rfl (by omega) | exact QOp_sub64 rfl rfl rfl (by omega) | exact QOp_iarith rfl rfl rfl rfl rfl | exact Q_pick_t rfl rfl (by conv => lhs; whnf) | exact Q_pick_f rfl rfl (by conv => lhs; whnf) | exact QOp_not rfl rfl | exact QOp_extract rfl rfl rfl | exact QOp_load rfl rfl rfl | exact QOp_fieldAddr_p rfl rfl rfl | exact QOp_fieldAddr_s rfl rfl | exact QOp_field rfl rfl rfl | exact QOp_nilCheck rfl rfl rfl | exact QOp_len_sl rfl rfl | exact QOp_len_str rfl rfl | exact QOp_len_emp rfl rfl | exact QOp_len_arr rfl | exact QOp_fn rfl | exact QOp_beq rfl rfl rfl | exact QOp_bne rfl rfl rfl | exact QOp_fcmp rfl rfl rfl rfl rfl | exact QOp_farith rfl rfl rfl rfl | exact QOp_widen rfl rfl | exact QOp_itof rfl rfl | exact QOp_bits32 rfl rfl (by assumption) | exact QOp_aeq rfl rfl rfl rfl | exact QOp_ane rfl rfl rfl rfl | exact QOp_slice_pa rfl rfl rfl | exact QOp_slice_sa rfl rfl (by decide) (by decide) | exact QOp_indexAddr_s rfl rfl rfl (by constructor <;> first | omega | (simp; omega) | (simp; done)) | exact QOp_indexAddr_m rfl rfl rfl rfl (by omega) | exact QOp_indexAddr_r rfl rfl rfl rfl (by omega) | exact QOp_indexAddr_pa rfl rfl rfl rfl (by omega) | exact QOp_indexAddr_sa rfl rfl rfl (by omega)); exact rfl) | (apply S_f; (first | exact .free rfl | exact .asked _ _ _ _ _ rfl rfl rfl rfl); exact rfl) | (apply D_f; (first | exact .free rfl | exact .asked _ _ _ _ _ rfl rfl rfl rfl); exact rfl) | (apply S_kt; exact rfl; exact rfl; assumption) | (apply S_kf; exact rfl; exact rfl; assumption) | (apply D_kt; exact rfl; exact rfl; assumption) | (apply D_kf; exact rfl; exact rfl; assumption) | (apply S_split; exact rfl; exact rfl; all_goals intro hsp) | (apply D_split; exact rfl; exact rfl; all_goals intro hsp) | (apply S_m; (first | exact .free rfl | exact .asked _ _ _ _ _ rfl rfl rfl rfl); first | refine M_box_agg rfl rfl rfl rfl ?_ | refine M_box_one rfl rfl rfl rfl ?_ | refine SOp_alloc rfl rfl ?_ | refine M_store_1 rfl rfl rfl rfl rfl rfl (by first | decide | omega) rfl ?_ | refine M_store_w rfl rfl rfl rfl rfl rfl rfl rfl rfl ?_ | refine M_store_a rfl rfl rfl rfl rfl rfl (by exact rfl) (by first | decide | omega) rfl ?_) | with_reducible refine SOps_nil ?_ | with_reducible refine QOps_nil ?_ | with_reducible refine AW_seq_region ?_ | (apply AW_seq_draw; exact rfl; kernel_rfl) | with_reducible refine AW_region ?_ | (apply AW_draw; exact rfl; kernel_rfl) | with_reducible refine AW_ret ?_ | with_reducible refine AW_skip ?_ | with_reducible refine Tq_n ?_ | with_reducible refine Tq_r ?_ | with_reducible refine Tq_e ?_ | with_reducible refine Bq_n ?_ | with_reducible refine Bq_r ?_ | refine Bq_y ?_ rfl | refine Bq_x ?_ rfl | with_reducible refine AW_exit ?_ | refine AW_cond_t rfl ?_ | refine AW_cond_f rfl ?_ | refine AW_cond_kt rfl (by assumption) ?_ | refine AW_cond_kf rfl (by assumption) ?_ | (refine AW_cond_s rfl ?_ ?_ <;> intro hsp) | with_reducible refine AW_block ?_ | with_reducible refine AW_seq ?_)
  · have : isNanB .f32 m = true := nan_of_feq (by simpa using hsp)
    first | exact Ep_1 (by (first | rfl | (show D.int _ _ = D.int _ _; congr 1; simp [bits32, this]; done) | (show D.bool _ = D.bool _; congr 1 <;> simp [*]; done) | (show D.int _ _ = D.int _ _; congr 1 <;> omega) | (show D.int _ _ = D.int _ _; congr 1 <;> simp [*]; done))) | exact Ep_2 (by (first | rfl | (show D.int _ _ = D.int _ _; congr 1; simp [bits32, this]; done) | (show D.bool _ = D.bool _; congr 1 <;> simp [*]; done) | (show D.int _ _ = D.int _ _; congr 1 <;> omega) | (show D.int _ _ = D.int _ _; congr 1 <;> simp [*]; done))) (by (first | rfl | (show D.int _ _ = D.int _ _; congr 1; simp [bits32, this]; done) | (show D.bool _ = D.bool _; congr 1 <;> simp [*]; done) | (show D.int _ _ = D.int _ _; congr 1 <;> omega) | (show D.int _ _ = D.int _ _; congr 1 <;> simp [*]; done))) | exact Ep_3 (by (first | rfl | (show D.int _ _ = D.int _ _; congr 1; simp [bits32, this]; done) | (show D.bool _ = D.bool _; congr 1 <;> simp [*]; done) | (show D.int _ _ = D.int _ _; congr 1 <;> omega) | (show D.int _ _ = D.int _ _; congr 1 <;> simp [*]; done))) (by (first | rfl | (show D.int _ _ = D.int _ _; congr 1; simp [bits32, this]; done) | (show D.bool _ = D.bool _; congr 1 <;> simp [*]; done) | (show D.int _ _ = D.int _ _; congr 1 <;> omega) | (show D.int _ _ = D.int _ _; congr 1 <;> simp [*]; done))) (by (first | rfl | (show D.int _ _ = D.int _ _; congr 1; simp [bits32, this]; done) | (show D.bool _ = D.bool _; congr 1 <;> simp [*]; done) | (show D.int _ _ = D.int _ _; congr 1 <;> omega) | (show D.int _ _ = D.int _ _; congr 1 <;> simp [*]; done))) | exact Ep_a rfl rfl | exact Ep_a1 rfl rfl (by (first | rfl | (show D.int _ _ = D.int _ _; congr 1; simp [bits32, this]; done) | (show D.bool _ = D.bool _; congr 1 <;> simp [*]; done) | (show D.int _ _ = D.int _ _; congr 1 <;> omega) | (show D.int _ _ = D.int _ _; congr 1 <;> simp [*]; done))) | exact Ep_a2 rfl rfl (by (first | rfl | (show D.int _ _ = D.int _ _; congr 1; simp [bits32, this]; done) | (show D.bool _ = D.bool _; congr 1 <;> simp [*]; done) | (show D.int _ _ = D.int _ _; congr 1 <;> omega) | (show D.int _ _ = D.int _ _; congr 1 <;> simp [*]; done))) (by (first | rfl | (show D.int _ _ = D.int _ _; congr 1; simp [bits32, this]; done) | (show D.bool _ = D.bool _; congr 1 <;> simp [*]; done) | (show D.int _ _ = D.int _ _; congr 1 <;> omega) | (show D.int _ _ = D.int _ _; congr 1 <;> simp [*]; done)))
  · have : isNanB .f32 m = false := not_nan_of_feq (by simpa using hsp)
    first | exact Ep_1 (by (first | rfl | (show D.int _ _ = D.int _ _; congr 1; simp [bits32, this]; done) | (show D.bool _ = D.bool _; congr 1 <;> simp [*]; done) | (show D.int _ _ = D.int _ _; congr 1 <;> omega) | (show D.int _ _ = D.int _ _; congr 1 <;> simp [*]; done))) | exact Ep_2 (by (first | rfl | (show D.int _ _ = D.int _ _; congr 1; simp [bits32, this]; done) | (show D.bool _ = D.bool _; congr 1 <;> simp [*]; done) | (show D.int _ _ = D.int _ _; congr 1 <;> omega) | (show D.int _ _ = D.int _ _; congr 1 <;> simp [*]; done))) (by (first | rfl | (show D.int _ _ = D.int _ _; congr 1; simp [bits32, this]; done) | (show D.bool _ = D.bool _; congr 1 <;> simp [*]; done) | (show D.int _ _ = D.int _ _; congr 1 <;> omega) | (show D.int _ _ = D.int _ _; congr 1 <;> simp [*]; done))) | exact Ep_3 (by (first | rfl | (show D.int _ _ = D.int _ _; congr 1; simp [bits32, this]; done) | (show D.bool _ = D.bool _; congr 1 <;> simp [*]; done) | (show D.int _ _ = D.int _ _; congr 1 <;> omega) | (show D.int _ _ = D.int _ _; congr 1 <;> simp [*]; done))) (by (first | rfl | (show D.int _ _ = D.int _ _; congr 1; simp [bits32, this]; done) | (show D.bool _ = D.bool _; congr 1 <;> simp [*]; done) | (show D.int _ _ = D.int _ _; congr 1 <;> omega) | (show D.int _ _ = D.int _ _; congr 1 <;> simp [*]; done))) (by (first | rfl | (show D.int _ _ = D.int _ _; congr 1; simp [bits32, this]; done) | (show D.bool _ = D.bool _; congr 1 <;> simp [*]; done) | (show D.int _ _ = D.int _ _; congr 1 <;> omega) | (show D.int _ _ = D.int _ _; congr 1 <;> simp [*]; done))) | exact Ep_a rfl rfl | exact Ep_a1 rfl rfl (by (first | rfl | (show D.int _ _ = D.int _ _; congr 1; simp [bits32, this]; done) | (show D.bool _ = D.bool _; congr 1 <;> simp [*]; done) | (show D.int _ _ = D.int _ _; congr 1 <;> omega) | (show D.int _ _ = D.int _ _; congr 1 <;> simp [*]; done))) | exact Ep_a2 rfl rfl (by (first | rfl | (show D.int _ _ = D.int _ _; congr 1; simp [bits32, this]; done) | (show D.bool _ = D.bool _; congr 1 <;> simp [*]; done) | (show D.int _ _ = D.int _ _; congr 1 <;> omega) | (show D.int _ _ = D.int _ _; congr 1 <;> simp [*]; done))) (by (first | rfl | (show D.int _ _ = D.int _ _; congr 1; simp [bits32, this]; done) | (show D.bool _ = D.bool _; congr 1 <;> simp [*]; done) | (show D.int _ _ = D.int _ _; congr 1 <;> omega) | (show D.int _ _ = D.int _ _; congr 1 <;> simp [*]; done)))

theorem SameNumber_ok (a b : Nat) : Pure Try.prog 25 [F a, F b] (.bool (fsame a b)) := by
  have h1 := bitsOf_ok a
  have h2 := bitsOf_ok b
  first | refine Pure_of_AW _ _ Try.func25 (by decide) rfl Try.ntmps25 Try.results25 (by simp) ?_ | refine SCall_of_AW _ _ Try.func25 (by decide) rfl Try.ntmps25 Try.results25 (by simp) ?_
  repeat' (first | (apply S_q; (first | exact .free rfl | exact .asked _ _ _ _ _ rfl rfl rfl rfl); (first | exact QOp_call h1 rfl rfl rfl rfl | exact QOp_call h2 rfl rfl rfl rfl | exact Q_mv rfl (by conv => lhs; whnf) | exact QOp_icmp rfl rfl rfl rfl rfl | exact QOp_add64 rfl rfl rfl (by omega) | exact QOp_sub64 rfl rfl rfl (by omega) | exact QOp_iarith rfl rfl rfl rfl rfl | exact Q_pick_t rfl rfl (by conv => lhs; whnf) | exact Q_pick_f rfl rfl (by conv => lhs; whnf) | exact QOp_not rfl rfl | exact QOp_extract rfl rfl rfl | exact QOp_load rfl rfl rfl | exact QOp_fieldAddr_p rfl rfl rfl | exact QOp_fieldAddr_s rfl rfl | exact QOp_field rfl rfl rfl | exact QOp_nilCheck rfl rfl rfl | exact QOp_len_sl rfl rfl | exact QOp_len_str rfl rfl | exact QOp_len_emp rfl rfl | exact QOp_len_arr rfl | exact QOp_fn rfl | exact QOp_beq rfl rfl rfl | exact QOp_bne rfl rfl rfl | exact QOp_fcmp rfl rfl rfl rfl rfl | exact QOp_farith rfl rfl rfl rfl | exact QOp_widen rfl rfl | exact QOp_itof rfl rfl | exact QOp_bits32 rfl rfl (by assumption) | exact QOp_aeq rfl rfl rfl rfl | exact QOp_ane rfl rfl rfl rfl | exact QOp_slice_pa rfl rfl rfl | exact QOp_slice_sa rfl rfl (by decide) (by decide) | exact QOp_indexAddr_s rfl rfl rfl (by constructor <;> first | omega | (simp; omega) | (simp; done)) | exact QOp_indexAddr_m rfl rfl rfl rfl (by omega) | exact QOp_indexAddr_r rfl rfl rfl rfl (by omega) | exact QOp_indexAddr_pa rfl rfl rfl rfl (by omega) | exact QOp_indexAddr_sa rfl rfl rfl (by omega)); exact rfl) | (apply D_q; (first | exact .free rfl | exact .asked _ _ _ _ _ rfl rfl rfl rfl); (first | exact QOp_call h1 rfl rfl rfl rfl | exact QOp_call h2 rfl rfl rfl rfl | exact Q_mv rfl (by conv => lhs; whnf) | exact QOp_icmp rfl rfl rfl rfl rfl | exact QOp_add64 rfl rfl rfl (by omega) | exact QOp_sub64 rfl rfl rfl (by omega) | exact QOp_iarith rfl rfl rfl rfl rfl | exact Q_pick_t rfl rfl (by conv => lhs; whnf) | exact Q_pick_f rfl rfl (by conv => lhs; whnf) | exact QOp_not rfl rfl | exact QOp_extract rfl rfl rfl | exact QOp_load rfl rfl rfl | exact QOp_fieldAddr_p rfl rfl rfl | exact QOp_fieldAddr_s rfl rfl | exact QOp_field rfl rfl rfl | exact QOp_nilCheck rfl rfl rfl | exact QOp_len_sl rfl rfl | exact QOp_len_str rfl rfl | exact QOp_len_emp rfl rfl | exact QOp_len_arr rfl | exact QOp_fn rfl | exact QOp_beq rfl rfl rfl | exact QOp_bne rfl rfl rfl | exact QOp_fcmp rfl rfl rfl rfl rfl | exact QOp_farith rfl rfl rfl rfl | exact QOp_widen rfl rfl | exact QOp_itof rfl rfl | exact QOp_bits32 rfl rfl (by assumption) | exact QOp_aeq rfl rfl rfl rfl | exact QOp_ane rfl rfl rfl rfl | exact QOp_slice_pa rfl rfl rfl | exact QOp_slice_sa rfl rfl (by decide) (by decide) | exact QOp_indexAddr_s rfl rfl rfl (by constructor <;> first | omega | (simp; omega) | (simp; done)) | exact QOp_indexAddr_m rfl rfl rfl rfl (by omega) | exact QOp_indexAddr_r rfl rfl rfl rfl (by omega) | exact QOp_indexAddr_pa rfl rfl rfl rfl (by omega) | exact QOp_indexAddr_sa rfl rfl rfl (by omega)); exact rfl) | (apply S_f; (first | exact .free rfl | exact .asked _ _ _ _ _ rfl rfl rfl rfl); exact rfl) | (apply D_f; (first | exact .free rfl | exact .asked _ _ _ _ _ rfl rfl rfl rfl); exact rfl) | (apply S_kt; exact rfl; exact rfl; assumption) | (apply S_kf; exact rfl; exact rfl; assumption) | (apply D_kt; exact rfl; exact rfl; assumption) | (apply D_kf; exact rfl; exact rfl; assumption) | (apply S_split; exact rfl; exact rfl; all_goals intro hsp) | (apply D_split; exact rfl; exact rfl; all_goals intro hsp) | (apply S_m; (first | exact .free rfl | exact .asked _ _ _ _ _ rfl rfl rfl rfl); first | refine M_box_agg rfl rfl rfl rfl ?_ | refine M_box_one rfl rfl rfl rfl ?_ | refine SOp_alloc rfl rfl ?_ | refine M_store_1 rfl rfl rfl rfl rfl rfl (by first | decide | omega) rfl ?_ | refine M_store_w rfl rfl rfl rfl rfl rfl rfl rfl rfl ?_ | refine M_store_a rfl rfl rfl rfl rfl rfl (by exact rfl) (by first | decide | omega) rfl ?_) | with_reducible refine SOps_nil ?_ | with_reducible refine QOps_nil ?_ | with_reducible refine AW_seq_region ?_ | (apply AW_seq_draw; exact rfl; kernel_rfl) | with_reducible refine AW_region ?_ | (apply AW_draw; exact rfl; kernel_rfl) | with_reducible refine AW_ret ?_ | with_reducible refine AW_skip ?_ | with_reducible refine Tq_n ?_ | with_reducible refine Tq_r ?_ | with_reducible refine Tq_e ?_ | with_reducible refine Bq_n ?_ | with_reducible refine Bq_r ?_ | refine Bq_y ?_ rfl | refine Bq_x ?_ rfl | with_reducible refine AW_exit ?_ | refine AW_cond_t rfl ?_ | refine AW_cond_f rfl ?_ | refine AW_cond_kt rfl (by assumption) ?_ | refine AW_cond_kf rfl (by assumption) ?_ | (refine AW_cond_s rfl ?_ ?_ <;> intro hsp) | with_reducible refine AW_block ?_ | with_reducible refine AW_seq ?_)
  refine Ep_1 ?_
  show D.bool _ = D.bool _
  congr 1
  exact beq_cast _ _
end Go.Proofs.Ytlkepggpppenaaa
