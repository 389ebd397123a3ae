/-
  The row of FnExactLongestQueue: for every town that comes in the law answers yes, and the town reads as before.
-/
import Derived.Test.YtcgocdcbceeoiaaGreatRows
import Derived.Test.YtcgocdcbceeoiaaGreatF2
import Derived.Test.YtcgocdcbceeoiaaGreatR0
namespace Go.Proofs.YtcgocdcbceeoiaaGreat
open Go Go.Proofs
open Go.ChangeShapes Go.WideShapes Go.ChangeAt Go.RowKit
namespace fnExactLongestQueue
theorem own : ownKnob Tryz.prog.godebug = none := by kernel_rfl
theorem laidOut : laidOutB Tryz.prog = true := by kernel_rfl
set_option maxRecDepth 100000 in
theorem lifted (os : Os) (started : os.Started) (H : Type) (enc : TypeId × Value → H) :
    ReturnsInHanded {} Tryz.checked os 5 .any (Rows.fnExactLongestQueueSpec.pre6 enc Tryz.prog Tryz.f5 Rows.fnExactLongestQueueRow.domain false) (Rows.fnExactLongestQueueSpec.post enc Tryz.prog Tryz.f5 false true false false) := by
  refine returnsInHanded_of_change (C := Tryz.checked) own started (by kernel_rfl) Tryz.func5
    (ChangeSpec.witness6 (enc := enc) (C := Tryz.checked) false ⟨#[], #[.agg #[.slice none 0 0, .slice none 0 0, .slice none 0 0, .slice none 0 0, .int .i64 0, .float .f32 0, .float .f32 0]], []⟩ 8 (by kernel_rfl) (by kernel_rfl) (by kernel_rfl) (by kernel_rfl)) ?_
  intro W base args ds gs before hval0 hW hcnd _
  have hval : ∀ (j : Nat) t v, Tryz.f5.params[j]? = some t → args[j]? = some v → Value.okWide Tryz.prog W .any base t v := hval0
  have hW' := hW
  obtain ⟨p, q, hA0, hV, rfl, hfz, hnd⟩ := hW
  have hA : DataW.TrodAll enc Tryz.prog W 0 (fun _ => true) true Tryz.f5.params.toList args.toList ds p := hA0
  rw [Tryz.params5] at hA hval
  obtain ⟨v0, vs0, d0, ds0, p0, q0, hargs, rfl, rfl, h0, r0⟩ := trodAll_cons hA
  obtain ⟨rfl, rfl, rfl⟩ := trodAll_nil r0
  obtain rfl : args = #[v0] := by cases args; simp_all
  obtain ⟨rfl, rfl⟩ := trodVars_none hV
  have lt0 : ∀ x ∈ p0, x.block < W.heap.size := by obtain ⟨m, hm⟩ := h0; exact DataW.trod_lt m _ _ _ hm
  obtain ⟨c0, rfl⟩ := okWide_agg (i := 0) (off := 0) (ft := 22) (by kernel_rfl) (hval 0 28 v0 rfl rfl)
  have k0 := h0
  obtain ⟨f0, g0⟩ := h0
  obtain ⟨t, ⟨ht, hfl⟩, e0⟩ := oTown.opens enc W f0 _ _ g0
  have e0' := RepL.agg (vs := c0) e0
  clear hA0 hval0
  refine (calls_of_pure (lawLongestQueue_ok t ht hfl) rfl fun i v d a1 a2 => ?_).mono fun e W' ⟨he, bel⟩ => ?_
  · match i, a1, a2 with
    | 0, a1, a2 => simp at a1 a2; subst a1; subst a2; exact e0'
    | i + 1, a1, a2 => simp at a2
  · subst he
    exact ⟨_, rfl, _, _, _, [], _, [], hW', trodAll_mk1 (shut_bool (TyBool.out (P := Tryz.prog) (t := 4)) _), (trodAll_cons_mk (Below.trod laidOut (by kernel_rfl) (of_decide_eq_true (by kernel_rfl)) k0 bel lt0) trodAll_mk0), rfl, bel.frame _, fun h => by cases h⟩
theorem over : Rows.fnExactLongestQueueRow.holds Tryz.pinned (OpenSpec.ofChange Rows.fnExactLongestQueueSpec) :=
  OpenClaim.holds_of_wide 5 Tryz.f5 rfl rfl rfl rfl rfl rfl rfl ⟨rfl, rfl, rfl, rfl, rfl⟩ rfl rfl rfl rfl rfl (by kernel_rfl) Tryz.func5 (by kernel_rfl)
    (of_decide_eq_true (by kernel_rfl)) (by unfold Func.isWrapper; first | (rw [if_pos (by decide +kernel)]; kernel_rfl) | (rw [if_neg (by decide +kernel)]; exact ⟨rfl, rfl⟩))
    (fun os started H enc _ => lifted os started H enc)
theorem proved : Rows.FnExactLongestQueueSaid := over
end fnExactLongestQueue
theorem fnExactLongestQueue_holds : Rows.FnExactLongestQueueSaid := fnExactLongestQueue.proved
#print axioms fnExactLongestQueue_holds
end Go.Proofs.YtcgocdcbceeoiaaGreat
