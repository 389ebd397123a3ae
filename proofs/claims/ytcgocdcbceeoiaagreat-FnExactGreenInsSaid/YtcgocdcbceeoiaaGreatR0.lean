/-
  How towns that come in are opened.
-/
import Derived.Test.YtcgocdcbceeoiaaGreatE4
import Derived.Test.YtcgocdcbceeoiaaGreatA16
namespace Go.Proofs.YtcgocdcbceeoiaaGreat
open Go Go.Proofs
open Go.ChangeShapes Go.WideShapes Go.ChangeAt Go.RowKit

theorem oI : Opens Tryz.prog 2 (fun n : Int => IntKind.i64.min ≤ n ∧ n ≤ IntKind.i64.max) (one1 I) 1 := opens_int (by kernel_rfl)
theorem oF : Opens Tryz.prog 26 (fun m : Nat => m < 4294967296) (one1 F) 1 := (opens_float (k := .f32) (by kernel_rfl)).mono fun m h => by simpa [Lit.wf] using h
theorem oB : Opens Tryz.prog 4 (fun _ : Bool => True) (one1 D.bool) 1 := opens_bool (by kernel_rfl)
theorem oFs' : Opens Tryz.prog 23 (fun xs : List Nat => lng xs ∧ ∀ a ∈ xs, a < 4294967296) (fun xs : List Nat => [sl 1 (one1 F) xs]) 1 := opens_slice (by kernel_rfl) (by kernel_rfl) (by decide) oF
theorem oIs : Opens Tryz.prog 98 (fun xs : List Int => lng xs) (fun xs : List Int => [sl 1 (one1 I) xs]) 1 := (opens_slice (by kernel_rfl) (by kernel_rfl) (by decide) oI).mono fun _ h => h.1
theorem oFs : Opens Tryz.prog 23 (fun xs : List Nat => lng xs) (fun xs : List Nat => [sl 1 (one1 F) xs]) 1 := (opens_slice (by kernel_rfl) (by kernel_rfl) (by decide) oF).mono fun _ h => h.1
theorem oFour : Opens Tryz.prog 50 (fun f => ∀ i, i < 4 → f i < 4294967296) (fun f : Nat → Nat => (List.range 4).flatMap fun i => one1 F (f i)) (4 * 1) := opens_array (by kernel_rfl) (by kernel_rfl) oF
theorem oFlows : Opens Tryz.prog 51 (fun m => ∀ i, i < 4 → ∀ k, k < 4 → m i k < 4294967296) (fun m : Nat → Nat → Nat => (List.range 4).flatMap fun i => (List.range 4).flatMap fun k => one1 F (m i k)) (4 * (4 * 1)) := opens_array (by kernel_rfl) (by kernel_rfl) oFour
theorem oCars : Opens Tryz.prog 83 (fun f => ∀ i, i < 16 → f i < 4294967296) (fun f : Nat → Nat => (List.range 16).flatMap fun i => one1 F (f i)) (16 * 1) := opens_array (by kernel_rfl) (by kernel_rfl) oF
theorem oPhase : Opens Tryz.prog 138 (fun _ => True) (fun f : Nat → Bool => (List.range 8).flatMap fun i => one1 D.bool (f i)) (8 * 1) := (opens_array (by kernel_rfl) (by kernel_rfl) oB).mono fun _ _ => trivial
theorem oRoad : Opens Tryz.prog 124 (fun r => r.ok) encRoad 19 :=
  ⟨by kernel_rfl, encRoad_length, encRoad_free, fun en W fuel vs x h => by
    obtain ⟨fs, hu⟩ := hasStruct (P := Tryz.prog) (t := 124) (i := 0) (off := 0) (ft := 83) (by kernel_rfl)
    have hl := struct_len hu (n := 19) (by kernel_rfl) h
    obtain ⟨c, q0, h0⟩ := open_fld (i := 0) (off := 0) (by kernel_rfl) oCars h
    obtain ⟨p, q1, h1⟩ := open_fld (i := 1) (off := 16) (by kernel_rfl) oF h
    obtain ⟨b, q2, h2⟩ := open_fld (i := 2) (off := 17) (by kernel_rfl) oF h
    obtain ⟨l, q3, h3⟩ := open_fld (i := 3) (off := 18) (by kernel_rfl) oF h
    have hh := RepL.seg (a := 0) h0 rfl (.seg h1 rfl (.seg h2 rfl (.seg h3 rfl (.nil hl))))
    exact ⟨⟨c, p, b, l⟩, ⟨q0, q1, q2, q3⟩, hh⟩⟩
theorem oSlot : Opens Tryz.prog 198 (fun _ => True) encSlot 9 :=
  ⟨by kernel_rfl, encSlot_length, encSlot_free, fun en W fuel vs x h => by
    obtain ⟨fs, hu⟩ := hasStruct (P := Tryz.prog) (t := 198) (i := 0) (off := 0) (ft := 138) (by kernel_rfl)
    have hl := struct_len hu (n := 9) (by kernel_rfl) h
    obtain ⟨g, q0, h0⟩ := open_fld (i := 0) (off := 0) (by kernel_rfl) oPhase h
    obtain ⟨n, q1, h1⟩ := open_fld (i := 1) (off := 8) (by kernel_rfl) oI h
    have hh := RepL.seg (a := 0) h0 rfl (.seg h1 rfl (.nil hl))
    exact ⟨⟨g, n⟩, trivial, hh⟩⟩
theorem oSlots : Opens Tryz.prog 113 (fun xs : List Slot => lng xs) (fun xs : List Slot => [sl 9 encSlot xs]) 1 := (opens_slice (by kernel_rfl) (by kernel_rfl) (by decide) oSlot).mono fun _ h => h.1
theorem oPlan : Opens Tryz.prog 115 (fun p => lng p.slots) encPlan 3 :=
  ⟨by kernel_rfl, encPlan_length, encPlan_free, fun en W fuel vs x h => by
    obtain ⟨fs, hu⟩ := hasStruct (P := Tryz.prog) (t := 115) (i := 0) (off := 0) (ft := 113) (by kernel_rfl)
    have hl := struct_len hu (n := 3) (by kernel_rfl) h
    obtain ⟨s, q0, h0⟩ := open_fld (i := 0) (off := 0) (by kernel_rfl) oSlots h
    obtain ⟨b, q1, h1⟩ := open_fld (i := 1) (off := 1) (by kernel_rfl) oI h
    obtain ⟨o, q2, h2⟩ := open_fld (i := 2) (off := 2) (by kernel_rfl) oI h
    have hh := RepL.seg (a := 0) h0 rfl (.seg h1 rfl (.seg h2 rfl (.nil hl)))
    exact ⟨⟨s, b, o⟩, q0, hh⟩⟩
theorem oJunction : Opens Tryz.prog 109 (fun j => j.ok) encJunction 22 :=
  ⟨by kernel_rfl, encJunction_length, encJunction_free, fun en W fuel vs x h => by
    obtain ⟨fs, hu⟩ := hasStruct (P := Tryz.prog) (t := 109) (i := 0) (off := 0) (ft := 2) (by kernel_rfl)
    have hl := struct_len hu (n := 22) (by kernel_rfl) h
    obtain ⟨a, q0, h0⟩ := open_fld (i := 0) (off := 0) (by kernel_rfl) oI h
    obtain ⟨b, q1, h1⟩ := open_fld (i := 1) (off := 1) (by kernel_rfl) oI h
    obtain ⟨m, q2, h2⟩ := open_fld (i := 2) (off := 2) (by kernel_rfl) oFlows h
    obtain ⟨f, q3, h3⟩ := open_fld (i := 3) (off := 18) (by kernel_rfl) oFour h
    have hh := RepL.seg (a := 0) h0 rfl (.seg h1 rfl (.seg h2 rfl (.seg h3 rfl (.nil hl))))
    exact ⟨⟨a, b, m, f⟩, ⟨q2, q3⟩, hh⟩⟩
theorem oJoint : Opens Tryz.prog 111 (fun j => j.j.ok ∧ lng j.ins ∧ lng j.outs) encJoint 25 :=
  ⟨by kernel_rfl, encJoint_length, encJoint_free, fun en W fuel vs x h => by
    obtain ⟨fs, hu⟩ := hasStruct (P := Tryz.prog) (t := 111) (i := 0) (off := 0) (ft := 109) (by kernel_rfl)
    have hl := struct_len hu (n := 25) (by kernel_rfl) h
    obtain ⟨j, q0, h0⟩ := open_fld (i := 0) (off := 0) (by kernel_rfl) oJunction h
    obtain ⟨a, q1, h1⟩ := open_fld (i := 1) (off := 22) (by kernel_rfl) oIs h
    obtain ⟨b, q2, h2⟩ := open_fld (i := 2) (off := 23) (by kernel_rfl) oIs h
    obtain ⟨p, q3, h3⟩ := open_fld (i := 3) (off := 24) (by kernel_rfl) oI h
    have hh := RepL.seg (a := 0) h0 rfl (.seg h1 rfl (.seg h2 rfl (.seg h3 rfl (.nil hl))))
    exact ⟨⟨j, a, b, p⟩, ⟨q0, q1, q2⟩, hh⟩⟩
theorem oRoads : Opens Tryz.prog 22 (fun xs : List Road => lng xs ∧ ∀ r ∈ xs, r.ok) (fun xs : List Road => [sl 19 encRoad xs]) 1 := opens_slice (by kernel_rfl) (by kernel_rfl) (by decide) oRoad
theorem oPlans : Opens Tryz.prog 25 (fun xs : List Plan => lng xs ∧ ∀ p ∈ xs, lng p.slots) (fun xs : List Plan => [sl 3 encPlan xs]) 1 := opens_slice (by kernel_rfl) (by kernel_rfl) (by decide) oPlan
theorem oJoints : Opens Tryz.prog 24 (fun xs : List Joint => lng xs ∧ ∀ j ∈ xs, j.j.ok ∧ lng j.ins ∧ lng j.outs) (fun xs : List Joint => [sl 25 encJoint xs]) 1 := opens_slice (by kernel_rfl) (by kernel_rfl) (by decide) oJoint
theorem oTown : Opens Tryz.prog 28 (fun t => t.fits ∧ t.flo) encTown 7 :=
  ⟨by kernel_rfl, encTown_length, encTown_free, fun en W fuel vs x h => by
    obtain ⟨fs, hu⟩ := hasStruct (P := Tryz.prog) (t := 28) (i := 0) (off := 0) (ft := 22) (by kernel_rfl)
    have hl := struct_len hu (n := 7) (by kernel_rfl) h
    obtain ⟨r, q0, h0⟩ := open_fld (i := 0) (off := 0) (by kernel_rfl) oRoads h
    obtain ⟨o, q1, h1⟩ := open_fld (i := 1) (off := 1) (by kernel_rfl) oFs' h
    obtain ⟨j, q2, h2⟩ := open_fld (i := 2) (off := 2) (by kernel_rfl) oJoints h
    obtain ⟨p, q3, h3⟩ := open_fld (i := 3) (off := 3) (by kernel_rfl) oPlans h
    obtain ⟨k, q4, h4⟩ := open_fld (i := 4) (off := 4) (by kernel_rfl) oI h
    obtain ⟨c, q5, h5⟩ := open_fld (i := 5) (off := 5) (by kernel_rfl) oF h
    obtain ⟨w, q6, h6⟩ := open_fld (i := 6) (off := 6) (by kernel_rfl) oF h
    have hh := RepL.seg (a := 0) h0 rfl (.seg h1 rfl (.seg h2 rfl (.seg h3 rfl (.seg h4 rfl (.seg h5 rfl (.seg h6 rfl (.nil hl)))))))
    exact ⟨⟨r, o, j, p, k, c, w⟩, ⟨⟨q0.1, q1.1, q2.1, q3.1, fun j hj => (q2.2 j hj).2, q3.2⟩, ⟨q0.2, q1.2, fun j hj => (q2.2 j hj).1, q5, q6⟩⟩, hh⟩⟩

theorem okWide_agg {P : Program} {W : World} {r : Reach} {base : Nat} {t i off ft : Nat} {v : Value} (hf : fldTB P t i off ft = true) (h : Value.okWide P W r base t v) : ∃ cs, v = .agg cs := by
  obtain ⟨fs, hu⟩ := hasStruct hf
  unfold Value.okWide at h
  rw [hu] at h
  obtain ⟨cs, rfl, _⟩ := h
  exact ⟨cs, rfl⟩
end Go.Proofs.YtcgocdcbceeoiaaGreat
