/-
  The row of FnExactSameTown.
-/
import Derived.Test.YtlkepggpppenaaaRows
import Derived.Test.YtlkepggpppenaaaB11
import Derived.Test.YtlkepggpppenaaaA16
namespace Go.Proofs.Ytlkepggpppenaaa
open Go Go.Proofs
open Go.ChangeShapes Go.WideShapes Go.ChangeAt Go.RowKit

theorem oI : Opens Try.prog 2 (fun n : Int => IntKind.i64.min ≤ n ∧ n ≤ IntKind.i64.max) (one1 I) 1 := opens_int (by kernel_rfl)
theorem oF : Opens Try.prog 26 (fun _ : Nat => True) (one1 F) 1 := opens_float (by kernel_rfl)
theorem oB : Opens Try.prog 4 (fun _ : Bool => True) (one1 D.bool) 1 := opens_bool (by kernel_rfl)
theorem oIs : Opens Try.prog 62 (fun xs : List Int => lng xs) (fun xs : List Int => [sl 1 (one1 I) xs]) 1 := (opens_slice (by kernel_rfl) (by kernel_rfl) (by decide) oI).mono fun _ h => h.1
theorem oFs : Opens Try.prog 23 (fun xs : List Nat => lng xs) (fun xs : List Nat => [sl 1 (one1 F) xs]) 1 := (opens_slice (by kernel_rfl) (by kernel_rfl) (by decide) oF).mono fun _ h => h.1
theorem oFour : Opens Try.prog 56 (fun _ => True) (fun f : Nat → Nat => (List.range 4).flatMap fun i => one1 F (f i)) (4 * 1) := (opens_array (by kernel_rfl) (by kernel_rfl) oF).mono fun _ _ => trivial
theorem oFlows : Opens Try.prog 57 (fun _ => True) (fun m : Nat → Nat → Nat => (List.range 4).flatMap fun i => (List.range 4).flatMap fun k => one1 F (m i k)) (4 * (4 * 1)) := (opens_array (by kernel_rfl) (by kernel_rfl) oFour).mono fun _ _ => trivial
theorem oCars : Opens Try.prog 49 (fun _ => True) (fun f : Nat → Nat => (List.range 16).flatMap fun i => one1 F (f i)) (16 * 1) := (opens_array (by kernel_rfl) (by kernel_rfl) oF).mono fun _ _ => trivial
theorem oPhase : Opens Try.prog 101 (fun _ => True) (fun f : Nat → Bool => (List.range 8).flatMap fun i => one1 D.bool (f i)) (8 * 1) := (opens_array (by kernel_rfl) (by kernel_rfl) oB).mono fun _ _ => trivial
theorem oRoad : Opens Try.prog 94 (fun _ => True) encRoad 19 :=
  ⟨by kernel_rfl, encRoad_length, encRoad_free, fun en W fuel vs x h => by
    obtain ⟨fs, hu⟩ := hasStruct (P := Try.prog) (t := 94) (i := 0) (off := 0) (ft := 49) (by kernel_rfl)
    have hl := struct_len hu (n := 19) (by kernel_rfl) h
    obtain ⟨c, q0, h0⟩ := open_fld (i := 0) (off := 0) (by kernel_rfl) oCars h
    obtain ⟨p, q1, h1⟩ := open_fld (i := 1) (off := 16) (by kernel_rfl) oF h
    obtain ⟨b, q2, h2⟩ := open_fld (i := 2) (off := 17) (by kernel_rfl) oF h
    obtain ⟨l, q3, h3⟩ := open_fld (i := 3) (off := 18) (by kernel_rfl) oF h
    have hh := RepL.seg (a := 0) h0 rfl (.seg h1 rfl (.seg h2 rfl (.seg h3 rfl (.nil hl))))
    exact ⟨⟨c, p, b, l⟩, trivial, hh⟩⟩
theorem oSlot : Opens Try.prog 123 (fun _ => True) encSlot 9 :=
  ⟨by kernel_rfl, encSlot_length, encSlot_free, fun en W fuel vs x h => by
    obtain ⟨fs, hu⟩ := hasStruct (P := Try.prog) (t := 123) (i := 0) (off := 0) (ft := 101) (by kernel_rfl)
    have hl := struct_len hu (n := 9) (by kernel_rfl) h
    obtain ⟨g, q0, h0⟩ := open_fld (i := 0) (off := 0) (by kernel_rfl) oPhase h
    obtain ⟨n, q1, h1⟩ := open_fld (i := 1) (off := 8) (by kernel_rfl) oI h
    have hh := RepL.seg (a := 0) h0 rfl (.seg h1 rfl (.nil hl))
    exact ⟨⟨g, n⟩, trivial, hh⟩⟩
theorem oSlots : Opens Try.prog 83 (fun xs : List Slot => lng xs) (fun xs : List Slot => [sl 9 encSlot xs]) 1 := (opens_slice (by kernel_rfl) (by kernel_rfl) (by decide) oSlot).mono fun _ h => h.1
theorem oPlan : Opens Try.prog 85 (fun p => lng p.slots) encPlan 3 :=
  ⟨by kernel_rfl, encPlan_length, encPlan_free, fun en W fuel vs x h => by
    obtain ⟨fs, hu⟩ := hasStruct (P := Try.prog) (t := 85) (i := 0) (off := 0) (ft := 83) (by kernel_rfl)
    have hl := struct_len hu (n := 3) (by kernel_rfl) h
    obtain ⟨s, q0, h0⟩ := open_fld (i := 0) (off := 0) (by kernel_rfl) oSlots h
    obtain ⟨b, q1, h1⟩ := open_fld (i := 1) (off := 1) (by kernel_rfl) oI h
    obtain ⟨o, q2, h2⟩ := open_fld (i := 2) (off := 2) (by kernel_rfl) oI h
    have hh := RepL.seg (a := 0) h0 rfl (.seg h1 rfl (.seg h2 rfl (.nil hl)))
    exact ⟨⟨s, b, o⟩, q0, hh⟩⟩
theorem oJunction : Opens Try.prog 79 (fun _ => True) encJunction 22 :=
  ⟨by kernel_rfl, encJunction_length, encJunction_free, fun en W fuel vs x h => by
    obtain ⟨fs, hu⟩ := hasStruct (P := Try.prog) (t := 79) (i := 0) (off := 0) (ft := 2) (by kernel_rfl)
    have hl := struct_len hu (n := 22) (by kernel_rfl) h
    obtain ⟨a, q0, h0⟩ := open_fld (i := 0) (off := 0) (by kernel_rfl) oI h
    obtain ⟨b, q1, h1⟩ := open_fld (i := 1) (off := 1) (by kernel_rfl) oI h
    obtain ⟨m, q2, h2⟩ := open_fld (i := 2) (off := 2) (by kernel_rfl) oFlows h
    obtain ⟨f, q3, h3⟩ := open_fld (i := 3) (off := 18) (by kernel_rfl) oFour h
    have hh := RepL.seg (a := 0) h0 rfl (.seg h1 rfl (.seg h2 rfl (.seg h3 rfl (.nil hl))))
    exact ⟨⟨a, b, m, f⟩, trivial, hh⟩⟩
theorem oJoint : Opens Try.prog 81 (fun j => lng j.ins ∧ lng j.outs) encJoint 25 :=
  ⟨by kernel_rfl, encJoint_length, encJoint_free, fun en W fuel vs x h => by
    obtain ⟨fs, hu⟩ := hasStruct (P := Try.prog) (t := 81) (i := 0) (off := 0) (ft := 79) (by kernel_rfl)
    have hl := struct_len hu (n := 25) (by kernel_rfl) h
    obtain ⟨j, q0, h0⟩ := open_fld (i := 0) (off := 0) (by kernel_rfl) oJunction h
    obtain ⟨a, q1, h1⟩ := open_fld (i := 1) (off := 22) (by kernel_rfl) oIs h
    obtain ⟨b, q2, h2⟩ := open_fld (i := 2) (off := 23) (by kernel_rfl) oIs h
    obtain ⟨p, q3, h3⟩ := open_fld (i := 3) (off := 24) (by kernel_rfl) oI h
    have hh := RepL.seg (a := 0) h0 rfl (.seg h1 rfl (.seg h2 rfl (.seg h3 rfl (.nil hl))))
    exact ⟨⟨j, a, b, p⟩, ⟨q1, q2⟩, hh⟩⟩
theorem oRoads : Opens Try.prog 22 (fun xs : List Road => lng xs) (fun xs : List Road => [sl 19 encRoad xs]) 1 := (opens_slice (by kernel_rfl) (by kernel_rfl) (by decide) oRoad).mono fun _ h => h.1
theorem oPlans : Opens Try.prog 25 (fun xs : List Plan => lng xs ∧ ∀ p ∈ xs, lng p.slots) (fun xs : List Plan => [sl 3 encPlan xs]) 1 := opens_slice (by kernel_rfl) (by kernel_rfl) (by decide) oPlan
theorem oJoints : Opens Try.prog 24 (fun xs : List Joint => lng xs ∧ ∀ j ∈ xs, lng j.ins ∧ lng j.outs) (fun xs : List Joint => [sl 25 encJoint xs]) 1 := opens_slice (by kernel_rfl) (by kernel_rfl) (by decide) oJoint
theorem oTown : Opens Try.prog 28 (fun t => t.fits) encTown 7 :=
  ⟨by kernel_rfl, encTown_length, encTown_free, fun en W fuel vs x h => by
    obtain ⟨fs, hu⟩ := hasStruct (P := Try.prog) (t := 28) (i := 0) (off := 0) (ft := 22) (by kernel_rfl)
    have hl := struct_len hu (n := 7) (by kernel_rfl) h
    obtain ⟨r, q0, h0⟩ := open_fld (i := 0) (off := 0) (by kernel_rfl) oRoads h
    obtain ⟨o, q1, h1⟩ := open_fld (i := 1) (off := 1) (by kernel_rfl) oFs h
    obtain ⟨j, q2, h2⟩ := open_fld (i := 2) (off := 2) (by kernel_rfl) oJoints h
    obtain ⟨p, q3, h3⟩ := open_fld (i := 3) (off := 3) (by kernel_rfl) oPlans h
    obtain ⟨k, q4, h4⟩ := open_fld (i := 4) (off := 4) (by kernel_rfl) oI h
    obtain ⟨c, q5, h5⟩ := open_fld (i := 5) (off := 5) (by kernel_rfl) oF h
    obtain ⟨w, q6, h6⟩ := open_fld (i := 6) (off := 6) (by kernel_rfl) oF h
    have hh := RepL.seg (a := 0) h0 rfl (.seg h1 rfl (.seg h2 rfl (.seg h3 rfl (.seg h4 rfl (.seg h5 rfl (.seg h6 rfl (.nil hl)))))))
    exact ⟨⟨r, o, j, p, k, c, w⟩, ⟨q0, q1, q2.1, q3.1, q2.2, q3.2⟩, hh⟩⟩

theorem okWide_agg {P : Program} {W : World} {r : Reach} {base : Nat} {t i off ft : Nat} {v : Value} (hf : fldTB P t i off ft = true) (h : Value.okWide P W r base t v) : ∃ cs, v = .agg cs := by
  obtain ⟨fs, hu⟩ := hasStruct hf
  unfold Value.okWide at h
  rw [hu] at h
  obtain ⟨cs, rfl, _⟩ := h
  exact ⟨cs, rfl⟩
namespace fnExactSameTown
theorem own : ownKnob Try.prog.godebug = none := by kernel_rfl
theorem laidOut : laidOutB Try.prog = true := by kernel_rfl
set_option maxRecDepth 100000 in
theorem lifted (os : Os) (started : os.Started) (H : Type) (enc : TypeId × Value → H) :
    ReturnsInHanded {} Try.checked os 3 .any (Rows.fnExactSameTownSpec.pre6 enc Try.prog Try.f3 Rows.fnExactSameTownRow.domain false) (Rows.fnExactSameTownSpec.post enc Try.prog Try.f3 false true false false) := by
  refine returnsInHanded_of_change (C := Try.checked) own started (by kernel_rfl) Try.func3
    (ChangeSpec.witness6 (enc := enc) (C := Try.checked) false ⟨#[], #[.agg #[.slice none 0 0, .slice none 0 0, .slice none 0 0, .slice none 0 0, .int .i64 0, .float .f32 0, .float .f32 0], .agg #[.slice none 0 0, .slice none 0 0, .slice none 0 0, .slice none 0 0, .int .i64 0, .float .f32 0, .float .f32 0]], []⟩ 8 (by kernel_rfl) (by kernel_rfl) (by kernel_rfl) (by kernel_rfl)) ?_
  intro W base args ds gs before hval0 hW hcnd _
  have hval : ∀ (j : Nat) t v, Try.f3.params[j]? = some t → args[j]? = some v → Value.okWide Try.prog W .any base t v := hval0
  have hW' := hW
  obtain ⟨p, q, hA0, hV, rfl, hfz, hnd⟩ := hW
  have hA : DataW.TrodAll enc Try.prog W 0 (fun _ => true) true Try.f3.params.toList args.toList ds p := hA0
  rw [Try.params3] at hA hval
  obtain ⟨v0, vs0, d0, ds0, p0, q0, hargs, rfl, rfl, h0, r0⟩ := trodAll_cons hA
  obtain ⟨v1, vs1, d1, ds1, p1, q1, rfl, rfl, rfl, h1, r1⟩ := trodAll_cons r0
  obtain ⟨rfl, rfl, rfl⟩ := trodAll_nil r1
  obtain rfl : args = #[v0, v1] := by cases args; simp_all
  obtain ⟨rfl, rfl⟩ := trodVars_none hV
  have lt0 : ∀ x ∈ p0, x.block < W.heap.size := by obtain ⟨m, hm⟩ := h0; exact DataW.trod_lt m _ _ _ hm
  have lt1 : ∀ x ∈ p1, x.block < W.heap.size := by obtain ⟨m, hm⟩ := h1; exact DataW.trod_lt m _ _ _ hm
  obtain ⟨c0, rfl⟩ := okWide_agg (i := 0) (off := 0) (ft := 22) (by kernel_rfl) (hval 0 28 v0 rfl rfl)
  obtain ⟨c1, rfl⟩ := okWide_agg (i := 0) (off := 0) (ft := 22) (by kernel_rfl) (hval 1 28 v1 rfl rfl)
  have k0 := h0
  have k1 := h1
  obtain ⟨f0, g0⟩ := h0
  obtain ⟨f1, g1⟩ := h1
  obtain ⟨t, ht, e0⟩ := oTown.opens enc W f0 _ _ g0
  obtain ⟨u, hu, e1⟩ := oTown.opens enc W f1 _ _ g1
  have e0' := RepL.agg (vs := c0) e0
  have e1' := RepL.agg (vs := c1) e1
  clear hA0 hval0
  refine (calls_of_pure (law_ok t u ht hu) rfl fun i v d a1 a2 => ?_).mono fun e W' ⟨he, bel⟩ => ?_
  · match i, a1, a2 with
    | 0, a1, a2 => simp at a1 a2; subst a1; subst a2; exact e0'
    | 1, a1, a2 => simp at a1 a2; subst a1; subst a2; exact e1'
    | i + 2, a1, a2 => simp at a2
  · subst he
    exact ⟨_, rfl, _, _, _, [], _, [], hW', trodAll_mk1 (shut_bool (TyBool.out (P := Try.prog) (t := 4)) _), (trodAll_cons_mk (Below.trod laidOut (by kernel_rfl) (of_decide_eq_true (by kernel_rfl)) k0 bel lt0) (trodAll_cons_mk (Below.trod laidOut (by kernel_rfl) (of_decide_eq_true (by kernel_rfl)) k1 bel lt1) trodAll_mk0)), rfl, bel.frame _, fun h => by cases h⟩
theorem over : Rows.fnExactSameTownRow.holds Try.pinned (OpenSpec.ofChange Rows.fnExactSameTownSpec) :=
  OpenClaim.holds_of_wide 3 Try.f3 rfl rfl rfl rfl rfl rfl rfl ⟨rfl, rfl, rfl, rfl, rfl⟩ rfl rfl rfl rfl rfl (by kernel_rfl) Try.func3 (by kernel_rfl)
    (of_decide_eq_true (by kernel_rfl)) (by unfold Func.isWrapper; first | (rw [if_pos (by decide +kernel)]; kernel_rfl) | (rw [if_neg (by decide +kernel)]; exact ⟨rfl, rfl⟩))
    (fun os started H enc _ => lifted os started H enc)
theorem proved : Rows.FnExactSameTownSaid := over
end fnExactSameTown
theorem fnExactSameTown_holds : Rows.FnExactSameTownSaid := fnExactSameTown.proved
#print axioms fnExactSameTown_holds
end Go.Proofs.Ytlkepggpppenaaa
