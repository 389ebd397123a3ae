/-
  The row of FnExactGreenIns: for every town that comes in the law answers yes, and the town reads as before.
-/
import Derived.Test.YtcgocdcbceeoiaaGreatRows
import Derived.Test.YtcgocdcbceeoiaaGreatF6
import Derived.Test.YtcgocdcbceeoiaaGreatR0
namespace Go.Proofs.YtcgocdcbceeoiaaGreat
open Go Go.Proofs
open Go.ChangeShapes Go.WideShapes Go.ChangeAt Go.RowKit
namespace fnExactGreenIns
theorem own : ownKnob Tryz.prog.godebug = none := by kernel_rfl
theorem laidOut : laidOutB Tryz.prog = true := by kernel_rfl
set_option maxRecDepth 100000 in
theorem lifted (os : Os) (started : os.Started) (H : Type) (enc : TypeId × Value → H) :
    ReturnsInHanded {} Tryz.checked os 6 .any (Rows.fnExactGreenInsSpec.pre6 enc Tryz.prog Tryz.f6 Rows.fnExactGreenInsRow.domain false) (Rows.fnExactGreenInsSpec.post enc Tryz.prog Tryz.f6 false true false false) := by
  refine returnsInHanded_of_change (C := Tryz.checked) own started (by kernel_rfl) Tryz.func6
    (ChangeSpec.witness6 (enc := enc) (C := Tryz.checked) false ⟨#[], #[.agg #[.slice none 0 0, .slice none 0 0, .slice none 0 0, .slice none 0 0, .int .i64 0, .float .f32 0, .float .f32 0], .int .i64 0], []⟩ 8 (by kernel_rfl) (by kernel_rfl) (by kernel_rfl) (by kernel_rfl)) ?_
  intro W base args ds gs before hval0 hW hcnd _
  have hval : ∀ (j : Nat) t v, Tryz.f6.params[j]? = some t → args[j]? = some v → Value.okWide Tryz.prog W .any base t v := hval0
  have hW' := hW
  obtain ⟨p, q, hA0, hV, rfl, hfz, hnd⟩ := hW
  have hA : DataW.TrodAll enc Tryz.prog W 0 (fun _ => true) true Tryz.f6.params.toList args.toList ds p := hA0
  rw [Tryz.params6] at hA hval
  obtain ⟨v0, vs0, d0, ds0, p0, q0, hargs, rfl, rfl, h0, r0⟩ := trodAll_cons hA
  obtain ⟨v1, vs1, d1, ds1, p1, q1, rfl, rfl, rfl, h1, r1⟩ := trodAll_cons r0
  obtain ⟨rfl, rfl, rfl⟩ := trodAll_nil r1
  obtain rfl : args = #[v0, v1] := by cases args; simp_all
  obtain ⟨rfl, rfl⟩ := trodVars_none hV
  have lt0 : ∀ x ∈ p0, x.block < W.heap.size := by obtain ⟨m, hm⟩ := h0; exact DataW.trod_lt m _ _ _ hm
  have lt1 : ∀ x ∈ p1, x.block < W.heap.size := by obtain ⟨m, hm⟩ := h1; exact DataW.trod_lt m _ _ _ hm
  obtain ⟨n1, rfl⟩ := okWide_int (k := .i64) (by kernel_rfl) (hval 1 2 v1 rfl rfl)
  obtain ⟨c0, rfl⟩ := okWide_agg (i := 0) (off := 0) (ft := 22) (by kernel_rfl) (hval 0 28 v0 rfl rfl)
  have k0 := h0
  obtain ⟨f0, g0⟩ := h0
  obtain ⟨t, ⟨ht, hfl⟩, e0⟩ := oTown.opens enc W f0 _ _ g0
  have e0' := RepL.agg (vs := c0) e0
  clear hA0 hval0
  refine (calls_of_pure (lawGreenIns_ok t ht hfl n1) rfl fun i v d a1 a2 => ?_).mono fun e W' ⟨he, bel⟩ => ?_
  · match i, a1, a2 with
    | 0, a1, a2 => simp at a1 a2; subst a1; subst a2; exact e0'
    | 1, a1, a2 => simp at a1 a2; subst a1; subst a2; exact .int _ _
    | i + 2, a1, a2 => simp at a2
  · subst he
    exact ⟨_, rfl, _, _, _, [], _, [], hW', trodAll_mk1 (shut_bool (TyBool.out (P := Tryz.prog) (t := 4)) _), (trodAll_cons_mk (Below.trod laidOut (by kernel_rfl) (of_decide_eq_true (by kernel_rfl)) k0 bel lt0) (trodAll_cons_mk (Below.trod laidOut (by kernel_rfl) (of_decide_eq_true (by kernel_rfl)) h1 bel lt1) trodAll_mk0)), rfl, bel.frame _, fun h => by cases h⟩
theorem over : Rows.fnExactGreenInsRow.holds Tryz.pinned (OpenSpec.ofChange Rows.fnExactGreenInsSpec) :=
  OpenClaim.holds_of_wide 6 Tryz.f6 rfl rfl rfl rfl rfl rfl rfl ⟨rfl, rfl, rfl, rfl, rfl⟩ rfl rfl rfl rfl rfl (by kernel_rfl) Tryz.func6 (by kernel_rfl)
    (of_decide_eq_true (by kernel_rfl)) (by unfold Func.isWrapper; first | (rw [if_pos (by decide +kernel)]; kernel_rfl) | (rw [if_neg (by decide +kernel)]; exact ⟨rfl, rfl⟩))
    (fun os started H enc _ => lifted os started H enc)
theorem proved : Rows.FnExactGreenInsSaid := over
end fnExactGreenIns
theorem fnExactGreenIns_holds : Rows.FnExactGreenInsSaid := fnExactGreenIns.proved
#print axioms fnExactGreenIns_holds
end Go.Proofs.YtcgocdcbceeoiaaGreat
