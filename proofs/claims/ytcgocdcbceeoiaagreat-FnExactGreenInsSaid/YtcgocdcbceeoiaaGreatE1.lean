/-
  The reference's marks of roads that are used.
-/
import Derived.Test.YtcgocdcbceeoiaaGreatD5
import Derived.Test.YtcgocdcbceeoiaaGreatA26
namespace Go.Proofs.YtcgocdcbceeoiaaGreat
open Go Go.Proofs
attribute [local irreducible] AW SOps QOps QOp SOp SCall Pure endQ thenQ blockQ Loosens
set_option maxHeartbeats 4000000

abbrev oneB : Bool → List D := one1 D.bool
theorem oneB_len : ∀ b, (oneB b).length = 1 := fun _ => rfl
def usedL : List Bool → List Int → List Bool × Bool
  | us, [] => (us, true)
  | us, x :: r => if inR x 0 ((us.length : Int) - 1) = true ∧ us.getD x.toNat false = false then usedL (us.set x.toNat true) r else (us, false)
/-- A list of the first n values of a function. -/
def bl (n : Nat) (u : Nat → Bool) : List Bool := (List.range n).map u
theorem bl_length (n : Nat) (u : Nat → Bool) : (bl n u).length = n := by simp [bl]
theorem bl_getD {n : Nat} {u : Nat → Bool} {k : Nat} (h : k < n) : (bl n u).getD k false = u k := by simp [bl, List.getD, h]
theorem bl_at {n : Nat} {u : Nat → Bool} {k : Nat} (h : k < (bl n u).length) : (bl n u)[k] = u k := by simp [bl]
theorem bl_set {n : Nat} {u : Nat → Bool} {k : Nat} : (bl n u).set k true = bl n (fun j => if j = k then true else u j) := by
  apply List.ext_getElem
  · simp [bl]
  · intro i h1 h2
    simp only [bl, List.getElem_set, List.getElem_map, List.getElem_range]
    by_cases e : k = i
    · simp [e]
    · rw [if_neg e, if_neg (Ne.symm e)]
theorem usedL_bl (n : Nat) : ∀ (xs : List Int) (u : Nat → Bool), usedL (bl n u) xs = (bl n (usedRun n u xs).1, (usedRun n u xs).2)
  | [], u => rfl
  | x :: r, u => by
    unfold usedL usedRun
    rw [bl_length]
    by_cases hin : inR x 0 ((n : Int) - 1) = true
    · have hx : x.toNat < n := by unfold inR at hin; simp at hin; omega
      rw [bl_getD hx]
      by_cases hu : u x.toNat = false
      · rw [if_pos ⟨hin, hu⟩, if_pos ⟨hin, hu⟩, bl_set]
        exact usedL_bl n r _
      · rw [if_neg (fun h => hu h.2), if_neg (fun h => hu h.2)]
    · rw [if_neg (fun h => hin h.1), if_neg (fun h => hin h.1)]
theorem usedL_length : ∀ (xs : List Int) (us : List Bool), (usedL us xs).1.length = us.length
  | [], us => rfl
  | x :: r, us => by
    unfold usedL
    split
    · rw [usedL_length r]; simp
    · rfl

theorem rowE_set {α : Type} {enc : α → List D} {es : Nat} (hf : ∀ x, (enc x).length = es) (id : Nat) (xs : List α) (k : Nat) (v : α) : rowE id es enc (xs.set k v) = rowE id es enc xs := by
  simp [rowE, flat_length hf]
theorem usedL_step {us : List Bool} {xs : List Int} {k : Nat} (h : k < xs.length) (h1 : inR xs[k] 0 ((us.length : Int) - 1) = true) (h2 : us.getD xs[k].toNat false = false) : usedL us (xs.drop k) = usedL (us.set xs[k].toNat true) (xs.drop (k + 1)) := by
  rw [List.drop_eq_getElem_cons h]; conv => lhs; unfold usedL
  rw [if_pos ⟨h1, h2⟩]
theorem usedL_stop {us : List Bool} {xs : List Int} {k : Nat} (h : k < xs.length) (h1 : inR xs[k] 0 ((us.length : Int) - 1) = false ∨ us.getD xs[k].toNat false = true) : usedL us (xs.drop k) = (us, false) := by
  rw [List.drop_eq_getElem_cons h]; unfold usedL
  rw [if_neg]
  rintro ⟨a, b⟩
  rcases h1 with h1 | h1
  · rw [h1] at a; cases a
  · rw [h1] at b; cases b

theorem l06Used_ok (us : List Bool) (xs : List Int) (hus : lng us) (hxs : lng xs) : Turns Tryz.prog 105 [boxE 1 oneB us] [sl 1 (one1 I) xs, rowE 0 1 oneB us] [boxE 1 oneB (usedL us xs).1] (.bool (usedL us xs).2) := by
  have hx' : xs.length ≤ 9223372036854775807 := hxs
  have hu' : us.length ≤ 9223372036854775807 := hus
  first | refine Pure_of_AW _ _ Tryz.func105 (by kernel_rfl) rfl Tryz.ntmps105 Tryz.results105 (by simp) ?_ | refine SCall_of_AW _ _ Tryz.func105 (by kernel_rfl) rfl Tryz.ntmps105 Tryz.results105 (by simp) ?_
  repeat' (first | (apply S_q; (first | exact .free rfl | exact .asked _ _ _ _ _ rfl rfl rfl rfl | exact .blank _ _ _ rfl rfl rfl); (first | exact Q_mv rfl (by conv => lhs; whnf) | exact QOp_icmp rfl rfl rfl rfl rfl | exact QOp_add64 rfl rfl rfl (by omega) | exact QOp_sub64 rfl rfl rfl (by omega) | exact QOp_iarith rfl rfl rfl rfl rfl | exact Q_pick_t rfl rfl (by conv => lhs; whnf) | exact Q_pick_f rfl rfl (by conv => lhs; whnf) | exact QOp_not rfl rfl | exact QOp_load rfl rfl rfl | exact QOp_len_sl rfl rfl | exact QOp_len_str rfl rfl | exact QOp_len_emp rfl rfl | exact QOp_len_arr rfl | exact QOp_indexAddr_s rfl rfl rfl (by constructor <;> first | omega | (simp; omega) | (simp; done)) | exact QOp_indexAddr_m rfl rfl rfl rfl (by omega) | exact QOp_indexAddr_r rfl rfl rfl rfl (by omega)); exact rfl) | (apply S_f; (first | exact .free rfl | exact .asked _ _ _ _ _ rfl rfl rfl rfl | exact .blank _ _ _ rfl rfl rfl); exact rfl) | (apply S_kt; exact rfl; exact rfl; (fail_if_success (exact rfl)); assumption) | (apply S_kf; exact rfl; exact rfl; (fail_if_success (exact rfl)); assumption) | (apply S_split; exact rfl; (fail_if_success (exact (rfl : _ = D.bool true))); (fail_if_success (exact (rfl : _ = D.bool false))); exact rfl; all_goals intro hsp) | (apply S_m; (first | exact .free rfl | exact .asked _ _ _ _ _ rfl rfl rfl rfl | exact .blank _ _ _ rfl rfl rfl); first | refine M_store_1 rfl rfl rfl rfl rfl rfl (by first | decide | omega) rfl ?_ | refine M_store_w rfl rfl rfl rfl rfl rfl rfl rfl rfl ?_ | refine M_store_a rfl rfl rfl rfl rfl rfl (by exact rfl) (by first | decide | omega) rfl ?_) | (with_reducible first | refine SOps_nil ?_ | refine QOps_nil ?_ | refine AW_seq_region ?_ | refine AW_region ?_ | refine AW_ret ?_ | refine AW_skip ?_ | refine Tq_n ?_ | refine Tq_r ?_ | refine Tq_e ?_ | refine Bq_n ?_ | refine Bq_r ?_ | refine AW_exit ?_) | refine Bq_y ?_ rfl | refine Bq_x ?_ rfl | refine AW_cond_t rfl ?_ | refine AW_cond_f rfl ?_ | refine AW_cond_kt rfl (by assumption) ?_ | refine AW_cond_kf rfl (by assumption) ?_ | (refine AW_cond_s rfl ?_ ?_ <;> intro hsp) | with_reducible refine AW_block ?_ | with_reducible refine AW_seq ?_)
  refine AW_loop_of2 36 (fun (k : Nat) (vs : List Bool) => [(0, sl 1 (one1 I) xs), (1, rowE 0 1 oneB vs), (5, .int .i64 k)]) (fun _ vs => [boxE 1 oneB vs])
    (fun k vs => k ≤ xs.length ∧ vs.length = us.length ∧ usedL us xs = usedL vs (xs.drop k)) (fun k _ => xs.length - k) 1 (fun _ _ => rfl) (Nat.le_refl _) 0 us ⟨by omega, rfl, rfl⟩ ?_ ?_
  · exact loosens_of rfl rfl (locBel_cons (free_flat (one_free fun _ => rfl) _) (locBel_nil _)) (by repeat (first | exact trivial | refine ⟨by (first | rfl | (refine bel_of_free _ _ ?_; simp [D.free, D.freeAll, *]; done) | (show D.int _ _ = D.int _ _; congr 1 <;> omega) | (show D.int _ _ = D.int _ _; congr 1 <;> simp; done) | (show D.int _ _ = D.int _ _; congr 1 <;> simp <;> omega) | (show D.bool _ = D.bool _; congr 1 <;> simp [*]; done)), by (first | rfl | (refine bel_of_free _ _ ?_; simp [D.free, D.freeAll, *]; done) | (show D.int _ _ = D.int _ _; congr 1 <;> omega) | (show D.int _ _ = D.int _ _; congr 1 <;> simp; done) | (show D.int _ _ = D.int _ _; congr 1 <;> simp <;> omega) | (show D.bool _ = D.bool _; congr 1 <;> simp [*]; done)), ?_⟩))
  · rintro k vs ⟨hk, hvl, he⟩
    by_cases hlt : k < xs.length
    · have hc : decide ((k : Int) < (xs.length : Int)) = true := by simpa using hlt
      have hA := l00In_ok xs[k] 0 ((vs.length : Int) - 1)
      by_cases hin : inR xs[k] 0 ((vs.length : Int) - 1) = true
      · have hin2 : 0 ≤ xs[k] ∧ xs[k] ≤ (vs.length : Int) - 1 := by unfold inR at hin; simpa using hin
        have hkk : xs[k] = ((xs[k].toNat : Nat) : Int) := by omega
        have hkl : xs[k].toNat < vs.length := by omega
        have hgd : vs.getD xs[k].toNat false = vs[xs[k].toNat] := by simp [List.getD, hkl]
        rw [hin] at hA
        by_cases hb : vs[xs[k].toNat] = true
        · have hs := usedL_stop (us := vs) hlt (.inr (by rw [hgd]; exact hb))
          rw [he, hs]
          repeat' (first | (apply S_q; (first | exact .free rfl | exact .asked _ _ _ _ _ rfl rfl rfl rfl | exact .blank _ _ _ rfl rfl rfl); (first | exact QOp_len_sl' (xs := xs) (one_length I) rfl rfl rfl | exact QOp_indexAddr_se (one_length I) hlt rfl rfl rfl rfl | exact QOp_load_s1 (xs := xs) (k := k) rfl rfl rfl hlt | exact QOp_len_row oneB_len rfl rfl rfl | exact QOp_call hA rfl rfl rfl rfl | exact QOp_index_row oneB_len hkl rfl rfl rfl rfl hkk | exact QOp_load_r1 (g := D.bool) (k := xs[k].toNat) rfl rfl rfl rfl hkl | exact Q_mv rfl (by conv => lhs; whnf) | exact QOp_icmp rfl rfl rfl rfl rfl | exact QOp_add64 rfl rfl rfl (by omega) | exact QOp_sub64 rfl rfl rfl (by omega) | exact QOp_iarith rfl rfl rfl rfl rfl | exact Q_pick_t rfl rfl (by conv => lhs; whnf) | exact Q_pick_f rfl rfl (by conv => lhs; whnf) | exact QOp_not rfl rfl | exact QOp_load rfl rfl rfl | exact QOp_len_sl rfl rfl | exact QOp_len_str rfl rfl | exact QOp_len_emp rfl rfl | exact QOp_len_arr rfl | exact QOp_indexAddr_s rfl rfl rfl (by constructor <;> first | omega | (simp; omega) | (simp; done)) | exact QOp_indexAddr_m rfl rfl rfl rfl (by omega) | exact QOp_indexAddr_r rfl rfl rfl rfl (by omega)); exact rfl) | (apply S_f; (first | exact .free rfl | exact .asked _ _ _ _ _ rfl rfl rfl rfl | exact .blank _ _ _ rfl rfl rfl); exact rfl) | (apply S_kt; exact rfl; exact rfl; (fail_if_success (exact rfl)); assumption) | (apply S_kf; exact rfl; exact rfl; (fail_if_success (exact rfl)); assumption) | (apply S_split; exact rfl; (fail_if_success (exact (rfl : _ = D.bool true))); (fail_if_success (exact (rfl : _ = D.bool false))); exact rfl; all_goals intro hsp) | (apply S_m; (first | exact .free rfl | exact .asked _ _ _ _ _ rfl rfl rfl rfl | exact .blank _ _ _ rfl rfl rfl); first | refine M_store_1 rfl rfl rfl rfl rfl rfl (by first | decide | omega) rfl ?_ | refine M_store_w rfl rfl rfl rfl rfl rfl rfl rfl rfl ?_ | refine M_store_a rfl rfl rfl rfl rfl rfl (by exact rfl) (by first | decide | omega) rfl ?_) | (with_reducible first | refine SOps_nil ?_ | refine QOps_nil ?_ | refine AW_seq_region ?_ | refine AW_region ?_ | refine AW_ret ?_ | refine AW_skip ?_ | refine Tq_n ?_ | refine Tq_r ?_ | refine Tq_e ?_ | refine Bq_n ?_ | refine Bq_r ?_ | refine AW_exit ?_) | refine Bq_y ?_ rfl | refine Bq_x ?_ rfl | refine AW_cond_t rfl ?_ | refine AW_cond_f rfl ?_ | refine AW_cond_kt rfl (by assumption) ?_ | refine AW_cond_kf rfl (by assumption) ?_ | (refine AW_cond_s rfl ?_ ?_ <;> intro hsp) | with_reducible refine AW_block ?_ | with_reducible refine AW_seq ?_)
          all_goals first
            | exact End_1 rfl ⟨rfl, rfl⟩
            | (exfalso; simp_all; done)
        · have hb : vs[xs[k].toNat] = false := by simpa using hb
          have hs := usedL_step (us := vs) hlt hin (by rw [hgd]; exact hb)
          repeat' (first | (apply S_q; (first | exact .free rfl | exact .asked _ _ _ _ _ rfl rfl rfl rfl | exact .blank _ _ _ rfl rfl rfl); (first | exact QOp_len_sl' (xs := xs) (one_length I) rfl rfl rfl | exact QOp_indexAddr_se (one_length I) hlt rfl rfl rfl rfl | exact QOp_load_s1 (xs := xs) (k := k) rfl rfl rfl hlt | exact QOp_len_row oneB_len rfl rfl rfl | exact QOp_call hA rfl rfl rfl rfl | exact QOp_index_row oneB_len hkl rfl rfl rfl rfl hkk | exact QOp_load_r1 (g := D.bool) (k := xs[k].toNat) rfl rfl rfl rfl hkl | exact Q_mv rfl (by conv => lhs; whnf) | exact QOp_icmp rfl rfl rfl rfl rfl | exact QOp_add64 rfl rfl rfl (by omega) | exact QOp_sub64 rfl rfl rfl (by omega) | exact QOp_iarith rfl rfl rfl rfl rfl | exact Q_pick_t rfl rfl (by conv => lhs; whnf) | exact Q_pick_f rfl rfl (by conv => lhs; whnf) | exact QOp_not rfl rfl | exact QOp_load rfl rfl rfl | exact QOp_len_sl rfl rfl | exact QOp_len_str rfl rfl | exact QOp_len_emp rfl rfl | exact QOp_len_arr rfl | exact QOp_indexAddr_s rfl rfl rfl (by constructor <;> first | omega | (simp; omega) | (simp; done)) | exact QOp_indexAddr_m rfl rfl rfl rfl (by omega) | exact QOp_indexAddr_r rfl rfl rfl rfl (by omega)); exact rfl) | (apply S_f; (first | exact .free rfl | exact .asked _ _ _ _ _ rfl rfl rfl rfl | exact .blank _ _ _ rfl rfl rfl); exact rfl) | (apply S_kt; exact rfl; exact rfl; (fail_if_success (exact rfl)); assumption) | (apply S_kf; exact rfl; exact rfl; (fail_if_success (exact rfl)); assumption) | (apply S_split; exact rfl; (fail_if_success (exact (rfl : _ = D.bool true))); (fail_if_success (exact (rfl : _ = D.bool false))); exact rfl; all_goals intro hsp) | (apply S_m; (first | exact .free rfl | exact .asked _ _ _ _ _ rfl rfl rfl rfl | exact .blank _ _ _ rfl rfl rfl); first | refine M_store_r1 (g := D.bool) (k := xs[k].toNat) (v := true) rfl rfl rfl rfl hkl rfl rfl rfl ?_ | refine M_store_1 rfl rfl rfl rfl rfl rfl (by first | decide | omega) rfl ?_ | refine M_store_w rfl rfl rfl rfl rfl rfl rfl rfl rfl ?_ | refine M_store_a rfl rfl rfl rfl rfl rfl (by exact rfl) (by first | decide | omega) rfl ?_) | (with_reducible first | refine SOps_nil ?_ | refine QOps_nil ?_ | refine AW_seq_region ?_ | refine AW_region ?_ | refine AW_ret ?_ | refine AW_skip ?_ | refine Tq_n ?_ | refine Tq_r ?_ | refine Tq_e ?_ | refine Bq_n ?_ | refine Bq_r ?_ | refine AW_exit ?_) | refine Bq_y ?_ rfl | refine Bq_x ?_ rfl | refine AW_cond_t rfl ?_ | refine AW_cond_f rfl ?_ | refine AW_cond_kt rfl (by assumption) ?_ | refine AW_cond_kf rfl (by assumption) ?_ | (refine AW_cond_s rfl ?_ ?_ <;> intro hsp) | with_reducible refine AW_block ?_ | with_reducible refine AW_seq ?_)
          all_goals refine ⟨k + 1, vs.set xs[k].toNat true, ⟨by omega, by simpa using hvl, by rw [he, hs]⟩, by omega, ?_⟩
          all_goals exact loosens_of rfl rfl (locBel_cons (free_flat (one_free fun _ => rfl) _) (locBel_nil _)) (by repeat (first | exact trivial | refine ⟨by (first | rfl | exact (rowE_set oneB_len 0 vs _ true).symm | (refine bel_of_free _ _ ?_; simp [D.free, D.freeAll, *]; done) | (show D.int _ _ = D.int _ _; congr 1 <;> omega) | (show D.int _ _ = D.int _ _; congr 1 <;> simp; done) | (show D.int _ _ = D.int _ _; congr 1 <;> simp <;> omega) | (show D.bool _ = D.bool _; congr 1 <;> simp [*]; done)), by (first | rfl | exact (rowE_set oneB_len 0 vs _ true).symm | (refine bel_of_free _ _ ?_; simp [D.free, D.freeAll, *]; done) | (show D.int _ _ = D.int _ _; congr 1 <;> omega) | (show D.int _ _ = D.int _ _; congr 1 <;> simp; done) | (show D.int _ _ = D.int _ _; congr 1 <;> simp <;> omega) | (show D.bool _ = D.bool _; congr 1 <;> simp [*]; done)), ?_⟩))
      · have hin : inR xs[k] 0 ((vs.length : Int) - 1) = false := by simpa using hin
        rw [hin] at hA
        have hs := usedL_stop (us := vs) hlt (.inl hin)
        rw [he, hs]
        repeat' (first | (apply S_q; (first | exact .free rfl | exact .asked _ _ _ _ _ rfl rfl rfl rfl | exact .blank _ _ _ rfl rfl rfl); (first | exact QOp_len_sl' (xs := xs) (one_length I) rfl rfl rfl | exact QOp_indexAddr_se (one_length I) hlt rfl rfl rfl rfl | exact QOp_load_s1 (xs := xs) (k := k) rfl rfl rfl hlt | exact QOp_len_row oneB_len rfl rfl rfl | exact QOp_call hA rfl rfl rfl rfl | exact Q_mv rfl (by conv => lhs; whnf) | exact QOp_icmp rfl rfl rfl rfl rfl | exact QOp_add64 rfl rfl rfl (by omega) | exact QOp_sub64 rfl rfl rfl (by omega) | exact QOp_iarith rfl rfl rfl rfl rfl | exact Q_pick_t rfl rfl (by conv => lhs; whnf) | exact Q_pick_f rfl rfl (by conv => lhs; whnf) | exact QOp_not rfl rfl | exact QOp_load rfl rfl rfl | exact QOp_len_sl rfl rfl | exact QOp_len_str rfl rfl | exact QOp_len_emp rfl rfl | exact QOp_len_arr rfl | exact QOp_indexAddr_s rfl rfl rfl (by constructor <;> first | omega | (simp; omega) | (simp; done)) | exact QOp_indexAddr_m rfl rfl rfl rfl (by omega) | exact QOp_indexAddr_r rfl rfl rfl rfl (by omega)); exact rfl) | (apply S_f; (first | exact .free rfl | exact .asked _ _ _ _ _ rfl rfl rfl rfl | exact .blank _ _ _ rfl rfl rfl); exact rfl) | (apply S_kt; exact rfl; exact rfl; (fail_if_success (exact rfl)); assumption) | (apply S_kf; exact rfl; exact rfl; (fail_if_success (exact rfl)); assumption) | (apply S_split; exact rfl; (fail_if_success (exact (rfl : _ = D.bool true))); (fail_if_success (exact (rfl : _ = D.bool false))); exact rfl; all_goals intro hsp) | (apply S_m; (first | exact .free rfl | exact .asked _ _ _ _ _ rfl rfl rfl rfl | exact .blank _ _ _ rfl rfl rfl); first | refine M_store_1 rfl rfl rfl rfl rfl rfl (by first | decide | omega) rfl ?_ | refine M_store_w rfl rfl rfl rfl rfl rfl rfl rfl rfl ?_ | refine M_store_a rfl rfl rfl rfl rfl rfl (by exact rfl) (by first | decide | omega) rfl ?_) | (with_reducible first | refine SOps_nil ?_ | refine QOps_nil ?_ | refine AW_seq_region ?_ | refine AW_region ?_ | refine AW_ret ?_ | refine AW_skip ?_ | refine Tq_n ?_ | refine Tq_r ?_ | refine Tq_e ?_ | refine Bq_n ?_ | refine Bq_r ?_ | refine AW_exit ?_) | refine Bq_y ?_ rfl | refine Bq_x ?_ rfl | refine AW_cond_t rfl ?_ | refine AW_cond_f rfl ?_ | refine AW_cond_kt rfl (by assumption) ?_ | refine AW_cond_kf rfl (by assumption) ?_ | (refine AW_cond_s rfl ?_ ?_ <;> intro hsp) | with_reducible refine AW_block ?_ | with_reducible refine AW_seq ?_)
        exact End_1 rfl ⟨rfl, rfl⟩
    · have hc : decide ((k : Int) < (xs.length : Int)) = false := by simpa using hlt
      have hd : xs.drop k = [] := List.drop_eq_nil_of_le (by omega)
      rw [he, hd]
      repeat' (first | (apply S_q; (first | exact .free rfl | exact .asked _ _ _ _ _ rfl rfl rfl rfl | exact .blank _ _ _ rfl rfl rfl); (first | exact QOp_len_sl' (xs := xs) (one_length I) rfl rfl rfl | exact Q_mv rfl (by conv => lhs; whnf) | exact QOp_icmp rfl rfl rfl rfl rfl | exact QOp_add64 rfl rfl rfl (by omega) | exact QOp_sub64 rfl rfl rfl (by omega) | exact QOp_iarith rfl rfl rfl rfl rfl | exact Q_pick_t rfl rfl (by conv => lhs; whnf) | exact Q_pick_f rfl rfl (by conv => lhs; whnf) | exact QOp_not rfl rfl | exact QOp_load rfl rfl rfl | exact QOp_len_sl rfl rfl | exact QOp_len_str rfl rfl | exact QOp_len_emp rfl rfl | exact QOp_len_arr rfl | exact QOp_indexAddr_s rfl rfl rfl (by constructor <;> first | omega | (simp; omega) | (simp; done)) | exact QOp_indexAddr_m rfl rfl rfl rfl (by omega) | exact QOp_indexAddr_r rfl rfl rfl rfl (by omega)); exact rfl) | (apply S_f; (first | exact .free rfl | exact .asked _ _ _ _ _ rfl rfl rfl rfl | exact .blank _ _ _ rfl rfl rfl); exact rfl) | (apply S_kt; exact rfl; exact rfl; (fail_if_success (exact rfl)); assumption) | (apply S_kf; exact rfl; exact rfl; (fail_if_success (exact rfl)); assumption) | (apply S_split; exact rfl; (fail_if_success (exact (rfl : _ = D.bool true))); (fail_if_success (exact (rfl : _ = D.bool false))); exact rfl; all_goals intro hsp) | (apply S_m; (first | exact .free rfl | exact .asked _ _ _ _ _ rfl rfl rfl rfl | exact .blank _ _ _ rfl rfl rfl); first | refine M_store_1 rfl rfl rfl rfl rfl rfl (by first | decide | omega) rfl ?_ | refine M_store_w rfl rfl rfl rfl rfl rfl rfl rfl rfl ?_ | refine M_store_a rfl rfl rfl rfl rfl rfl (by exact rfl) (by first | decide | omega) rfl ?_) | (with_reducible first | refine SOps_nil ?_ | refine QOps_nil ?_ | refine AW_seq_region ?_ | refine AW_region ?_ | refine AW_ret ?_ | refine AW_skip ?_ | refine Tq_n ?_ | refine Tq_r ?_ | refine Tq_e ?_ | refine Bq_n ?_ | refine Bq_r ?_ | refine AW_exit ?_) | refine Bq_y ?_ rfl | refine Bq_x ?_ rfl | refine AW_cond_t rfl ?_ | refine AW_cond_f rfl ?_ | refine AW_cond_kt rfl (by assumption) ?_ | refine AW_cond_kf rfl (by assumption) ?_ | (refine AW_cond_s rfl ?_ ?_ <;> intro hsp) | with_reducible refine AW_block ?_ | with_reducible refine AW_seq ?_)
      exact End_1 rfl ⟨rfl, rfl⟩
end Go.Proofs.YtcgocdcbceeoiaaGreat
