/-
  Quiet operations, continued: loads, slices, calls, floats, strings.
-/
import Derived.Test.YtcgocdcbceeoiaaGreatA5
import Derived.Laws.Concat
namespace Go.Proofs.YtcgocdcbceeoiaaGreat
open Go
section
variable {P : Program} {o : Oper} {s : St}

theorem QOp_load {t n : Nat} {ag : Bool} {x : Operand} {cs : List D} {d : D} [ht : TElm P t n ag] (ho : o.op = .load t x) (hc : rdCells s.loc (s.ev x) = some cs) (hd : partD ag n cs = some d) : QOp P o s d :=
  QOp_pure fun E a w h hm => by
    obtain ⟨de, inf, h1, h2, h3, h4, h5⟩ := ht.out
    obtain ⟨b, off, f, hv, hf⟩ := rd_ptr hm (h x (by simp [ho, Op.operands])) hc
    cases ag with
    | true =>
      simp only [partD] at hd
      split at hd
      · rename_i hn
        simp only [Option.some.injEq] at hd
        subst hd
        obtain ⟨v, g1, g2⟩ := run_load_agg (P := P) (t := t) (n := n) ⟨de, inf, h1, h2, h3, h4⟩ hn hf
        exact ⟨v, by simp only [execOp, ho, hv, Instr.loadAt, Instr.sureAddr, Sem.run_bind, Sem.run_pure, Result.andThen_ok, g1], g2⟩
      · simp at hd
    | false =>
      simp only [partD] at hd
      obtain ⟨k1, k2⟩ := hf 0 d hd
      simp only [Nat.add_zero] at k1
      have hz : (isAgg t).run P w = .ok false w := by
        simp only [isAgg, Sem.run_bind, run_underlying h1, Result.andThen_ok]
        cases de <;> simp [isAggD] at h2 <;> rfl
      refine ⟨f 0, ?_, k2⟩
      simp only [execOp, ho, hv, Instr.loadAt, Instr.sureAddr, Sem.run_bind, Sem.run_pure, Result.andThen_ok, loadVar, hz, Bool.false_eq_true, if_false, run_load, k1]

theorem QOp_indexAddr_m {t es : Nat} {ag : Bool} {x ix : Operand} {k : IntKind} {i : Int} {id g off len : Nat} [ht : TSlc P t es ag] (ho : o.op = .indexAddr t x ix) (hx : s.ev x = .ms id g off es len) (hi : s.ev ix = .int k i)
    (hl : curOf s.loc id = some g) (h0 : 0 ≤ i ∧ i < len) : QOp P o s (.ptr id g (off + i.toNat * es)) :=
  QOp_pure fun E a w h hm => by
    obtain ⟨e, h1, ⟨de, inf, h2, h3, h4, h5, h6⟩⟩ := ht.out
    have h7 : Rep E w (a.eval x) (.ms id g off es len) := hx ▸ h x (by simp [ho, Op.operands])
    have h8 : a.eval ix = .int k i := Rep.int_inv (hi ▸ h ix (by simp [ho, Op.operands]))
    generalize hv : a.eval x = v at h7
    cases h7 with
    | ms _ _ _ _ _ _ k1 k2 k3 =>
      obtain ⟨b, cap0, cap, k4, rfl, k5⟩ := k3 (by rw [hm.c]; exact hl)
      refine ⟨.pointer (some ⟨b, off + i.toNat * es, none⟩), ?_, .ptr _ id g _ k1 k2 fun _ => ⟨b, cap0, k4, rfl⟩⟩
      simp [execOp, ho, hv, h8, Instr.indexAt, asIntOf, run_underlying h1, run_sizeOf (P := P) (n := es) ⟨inf, h4, h5⟩, h0.1, h0.2, addr_add]
theorem QOp_indexAddr_r {t es : Nat} {ag : Bool} {x ix : Operand} {k : IntKind} {i : Int} {id g len : Nat} [ht : TSlc P t es ag] (ho : o.op = .indexAddr t x ix) (hx : s.ev x = .row id g es len) (hi : s.ev ix = .int k i)
    (hl : curOf s.loc id = some g) (h0 : 0 ≤ i ∧ i < len) : QOp P o s (.ptr id g (i.toNat * es)) :=
  QOp_pure fun E a w h hm => by
    obtain ⟨e, h1, ⟨de, inf, h2, h3, h4, h5, h6⟩⟩ := ht.out
    have h7 : Rep E w (a.eval x) (.row id g es len) := hx ▸ h x (by simp [ho, Op.operands])
    have h8 : a.eval ix = .int k i := Rep.int_inv (hi ▸ h ix (by simp [ho, Op.operands]))
    generalize hv : a.eval x = v at h7
    cases h7 with
    | row _ _ _ _ _ k1 k2 k3 =>
      rcases k3 (by rw [hm.c]; exact hl) with ⟨_, rfl, _⟩ | ⟨b, cap, k4, rfl, k5⟩
      · omega
      · refine ⟨.pointer (some ⟨b, i.toNat * es, none⟩), ?_, .ptr _ id g _ k1 k2 fun _ => ⟨b, cap, k4, rfl⟩⟩
        simp [execOp, ho, hv, h8, Instr.indexAt, asIntOf, run_underlying h1, run_sizeOf (P := P) (n := es) ⟨inf, h4, h5⟩, h0.1, h0.2, addr_add]
/-- An element of an array variable. -/
theorem QOp_indexAddr_pa {t n len : Nat} {ag : Bool} {x ix : Operand} {k : IntKind} {i : Int} {id g off : Nat} [ht : TArr P t len n ag] (ho : o.op = .indexAddr t x ix) (hx : s.ev x = .ptr id g off) (hi : s.ev ix = .int k i)
    (hl : curOf s.loc id = some g) (h0 : 0 ≤ i ∧ i < len) : QOp P o s (.ptr id g (off + i.toNat * n)) :=
  QOp_pure fun E a w h hm => by
    obtain ⟨e, h1, ⟨de, inf, h2, h3, h4, h5, h6⟩⟩ := ht.out
    have h7 : Rep E w (a.eval x) (.ptr id g off) := hx ▸ h x (by simp [ho, Op.operands])
    have h8 : a.eval ix = .int k i := Rep.int_inv (hi ▸ h ix (by simp [ho, Op.operands]))
    generalize hv : a.eval x = v at h7
    cases h7 with
    | ptr _ _ _ _ k1 k2 k3 =>
      obtain ⟨b, cap, k4, rfl⟩ := k3 (by rw [hm.c]; exact hl)
      refine ⟨.pointer (some ⟨b, off + i.toNat * n, none⟩), ?_, .ptr _ id g _ k1 k2 fun _ => ⟨b, cap, k4, rfl⟩⟩
      simp [execOp, ho, hv, h8, Instr.indexAt, asIntOf, run_underlying h1, run_sizeOf (P := P) (n := n) ⟨inf, h4, h5⟩, h0.1, h0.2, addr_add, Instr.sureAddr]
theorem QOp_indexAddr_sa {t n len : Nat} {ag : Bool} {x ix : Operand} {k : IntKind} {i : Int} {cs : List D} [ht : TArr P t len n ag] (ho : o.op = .indexAddr t x ix) (hx : s.ev x = .sptr cs) (hi : s.ev ix = .int k i)
    (h0 : 0 ≤ i ∧ i < len) : QOp P o s (.sptr (cs.drop (i.toNat * n))) :=
  QOp_pure fun E a w h hm => by
    obtain ⟨e, h1, ⟨de, inf, h2, h3, h4, h5, h6⟩⟩ := ht.out
    have h7 : Rep E w (a.eval x) (.sptr cs) := hx ▸ h x (by simp [ho, Op.operands])
    have h8 : a.eval ix = .int k i := Rep.int_inv (hi ▸ h ix (by simp [ho, Op.operands]))
    generalize hv : a.eval x = v at h7
    cases h7 with
    | sptr b off0 _ f0 k4 k5 k6 k7 =>
      refine ⟨.pointer (some ⟨b, off0 + i.toNat * n, none⟩), ?_, drop_cells _ k4 k5 k6 k7⟩
      simp [execOp, ho, hv, h8, Instr.indexAt, asIntOf, run_underlying h1, run_sizeOf (P := P) (n := n) ⟨inf, h4, h5⟩, h0.1, h0.2, addr_add, Instr.sureAddr]

/-! len -/
theorem QOp_len_sl {t : Nat} {x : Operand} {es len : Nat} {cs : List D} {n : Nat} {ag : Bool} [ht : TSlc P t n ag] (ho : o.op = .call { callee := .builtin .len, args := #[x], argTypes := #[t] }) (hx : slCells s.loc (s.ev x) = some (es, len, cs)) :
    QOp P o s (.int .i64 len) :=
  QOp_pure fun E a w h hm => by
    obtain ⟨e, h1, _⟩ := ht.out
    obtain ⟨ad, b, off, cap, f, hv, _⟩ := sl_rep hm (h x (by simp [ho, Op.operands, Call.operands])) hx
    refine ⟨.int .i64 len, ?_, .int _ _⟩
    simp [execOp, ho, resolve, invoke, builtin, Builtin.len_, hv, run_underlying h1, goInt]
theorem QOp_len_emp {t : Nat} {x : Operand} {n : Nat} {ag : Bool} [ht : TSlc P t n ag] (ho : o.op = .call { callee := .builtin .len, args := #[x], argTypes := #[t] }) (hx : s.ev x = .emp) : QOp P o s (.int .i64 0) :=
  QOp_pure fun E a w h hm => by
    obtain ⟨e, h1, _⟩ := ht.out
    have h7 : Rep E w (a.eval x) .emp := hx ▸ h x (by simp [ho, Op.operands, Call.operands])
    generalize hv : a.eval x = v at h7
    cases h7
    refine ⟨.int .i64 0, ?_, .int _ _⟩
    simp [execOp, ho, resolve, invoke, builtin, Builtin.len_, hv, run_underlying h1, goInt]
theorem QOp_len_str {t : Nat} {x : Operand} {b : ByteArray} [ht : TString P t] (ho : o.op = .call { callee := .builtin .len, args := #[x], argTypes := #[t] }) (hx : s.ev x = .str b) : QOp P o s (.int .i64 b.size) :=
  QOp_pure fun E a w h hm => by
    have h7 : a.eval x = .string b := Rep.str_inv (hx ▸ h x (by simp [ho, Op.operands, Call.operands]))
    refine ⟨.int .i64 b.size, ?_, .int _ _⟩
    simp [execOp, ho, resolve, invoke, builtin, Builtin.len_, h7, run_underlying ht.out, goInt]
theorem QOp_len_arr {t len : Nat} {x : Operand} {n : Nat} {ag : Bool} [ht : TArr P t len n ag] (ho : o.op = .call { callee := .builtin .len, args := #[x], argTypes := #[t] }) : QOp P o s (.int .i64 len) :=
  QOp_pure fun E a w h hm => by
    obtain ⟨e, h1, _⟩ := ht.out
    refine ⟨.int .i64 len, ?_, .int _ _⟩
    simp [execOp, ho, resolve, invoke, builtin, Builtin.len_, run_underlying h1, goInt]

/-! calls -/
/-- What is lent for reading: a variable of the walk's own as memory that stays, while a call runs that changes none of them. -/
inductive Conv (L : Loc) : D → D → Prop
  | free (d : D) : d.free = true → Conv L d d
  | any (d : D) : Conv L d .any
  | ptr (id g off : Nat) (cs ds : List D) : rdCells L (.ptr id g off) = some cs → ds.length ≤ cs.length → (∀ (i : Nat) c d, cs[i]? = some c → ds[i]? = some d → Conv L c d) → D.freeAll ds = true → Conv L (.ptr id g off) (.sptr ds)
  | sl (d : D) (es len : Nat) (cs ds : List D) : slCells L d = some (es, len, cs) → len ≤ maxLen → ds.length = cs.length → (∀ (i : Nat) c d, cs[i]? = some c → ds[i]? = some d → Conv L c d) → D.freeAll ds = true →
      (∀ es' cs', d ≠ .slc es' cs') → Conv L d (.slc es ds)
  | agg (cs ds : List D) : ds.length = cs.length → (∀ (i : Nat) c d, cs[i]? = some c → ds[i]? = some d → Conv L c d) → Conv L (.agg cs) (.agg ds)
  | fn (f : FuncId) (cs ds : List D) : ds.length = cs.length → (∀ (i : Nat) c d, cs[i]? = some c → ds[i]? = some d → Conv L c d) → Conv L (.fn f cs) (.fn f ds)

def OwnB (E : Env) (L : Loc) (b : Nat) : Prop := ∃ id B cap, L[id]? = some (some B) ∧ E.β id = some (b, cap)
/-- The environment of a callee that gets nothing but memory that stays. -/
def lentEnv (E : Env) (L : Loc) : Env := { S := fun b => E.S b ∨ OwnB E L b, F := fun b => E.F b ∨ OwnB E L b, n := 0, β := fun _ => none, c := fun _ => none }

theorem ownB_heap {E : Env} {L : Loc} {w : World} (hm : MemSim E L w) {b : Nat} (h : OwnB E L b) : (∃ cur t, w.heap[b]? = some (.cells cur t (0, 0))) ∧ ¬ E.S b ∧ ¬ E.F b := by
  obtain ⟨id, B, cap, hB, hβ⟩ := h
  rcases hm.box id B hB with ⟨h4, _⟩ | ⟨b', cap', cur, t, h4, h5, h6, h7, _⟩
  · rw [hβ] at h4; simp at h4
  · rw [hβ] at h4
    simp only [Option.some.injEq, Prod.mk.injEq] at h4
    obtain ⟨rfl, rfl⟩ := h4
    exact ⟨⟨cur, t, h7⟩, h5, h6⟩

theorem rd_own {E : Env} {L : Loc} {w : World} {v : Value} {id g off : Nat} {cs : List D} (hm : MemSim E L w) (hr : Rep E w v (.ptr id g off)) (hc : rdCells L (.ptr id g off) = some cs) :
    ∃ (b : Nat) (f : Nat → Value), OwnB E L b ∧ v = .pointer (some ⟨b, off, none⟩) ∧ ∀ (i : Nat) d, cs[i]? = some d → w.cell? ⟨b, off + i, none⟩ = some (f i) ∧ Rep E w (f i) d := by
  have hc' := hc
  obtain ⟨b, off', f, hv, hf⟩ := rd_ptr hm hr hc
  cases hr with
  | ptr _ _ _ _ h1 h2 h3 =>
    simp only [rdCells] at hc
    split at hc
    · rename_i B hB
      split at hc
      · rename_i hg
        have hcur := hm.c id
        rw [curOf_some hB, hg] at hcur
        obtain ⟨b', cap, hβ, hv'⟩ := h3 hcur
        rw [hv] at hv'
        simp only [Value.pointer.injEq, Option.some.injEq, Addr.mk.injEq] at hv'
        obtain ⟨rfl, rfl, _⟩ := hv'
        exact ⟨b, f, ⟨id, B, cap, hB, hβ⟩, hv, hf⟩
      · simp at hc
    · simp at hc

theorem sl_own {E : Env} {L : Loc} {w : World} {v : Value} {d : D} {es len : Nat} {cs : List D} (hm : MemSim E L w) (hr : Rep E w v d) (hc : slCells L d = some (es, len, cs)) (hne : ∀ es' cs', d ≠ .slc es' cs') :
    ∃ (a : Option Addr) (b off cap : Nat) (f : Nat → Value), v = .slice a len cap ∧ cs.length = len * es ∧ len ≤ cap ∧ (cs ≠ [] → a = some ⟨b, off, none⟩ ∧ OwnB E L b) ∧
      ∀ (i : Nat) d, cs[i]? = some d → w.cell? ⟨b, off + i, none⟩ = some (f i) ∧ Rep E w (f i) d := by
  cases hr with
  | slc => exact absurd rfl (hne _ _)
  | ms _ id g off es0 len0 h1 h2 h3 =>
    simp only [slCells] at hc
    split at hc
    · rename_i B hB
      split at hc
      · rename_i hg
        simp only [Option.some.injEq, Prod.mk.injEq] at hc
        obtain ⟨rfl, rfl, rfl⟩ := hc
        have hcur := hm.c id
        rw [curOf_some hB, hg.1] at hcur
        obtain ⟨b, cap0, cap, hβ, rfl, hle⟩ := h3 hcur
        obtain ⟨f, hf⟩ := box_cells hm hB hβ
        refine ⟨some ⟨b, off, none⟩, b, off, cap, fun i => f (off + i), rfl, by simp; omega, hle, fun _ => ⟨rfl, id, B, cap0, hB, hβ⟩, fun i d hd => ?_⟩
        rw [List.getElem?_take] at hd
        split at hd
        · rw [List.getElem?_drop] at hd; exact hf _ d hd
        · simp at hd
      · simp at hc
    · simp at hc
  | row _ id g es0 len0 h1 h2 h3 =>
    simp only [slCells] at hc
    split at hc
    · rename_i B hB
      split at hc
      · rename_i hg
        simp only [Option.some.injEq, Prod.mk.injEq] at hc
        obtain ⟨rfl, rfl, rfl⟩ := hc
        have hcur := hm.c id
        rw [curOf_some hB, hg.1] at hcur
        rcases h3 hcur with ⟨hβ, rfl, a, rfl⟩ | ⟨b, cap, hβ, rfl, hle⟩
        · rcases hm.box id B hB with ⟨_, h5, _⟩ | ⟨b', cap', cur, t, h4, _⟩
          · exact ⟨a, 0, 0, 0, fun _ => undef, rfl, by simp [h5], Nat.le_refl _, fun hn => absurd h5 hn, fun i d hd => by simp [h5] at hd⟩
          · rw [hβ] at h4; simp at h4
        · obtain ⟨f, hf⟩ := box_cells hm hB hβ
          exact ⟨some ⟨b, 0, none⟩, b, 0, cap, f, rfl, by rw [hg.1, hg.2], hle, fun _ => ⟨rfl, id, B, cap, hB, hβ⟩, fun i d hd => by simpa using hf i d hd⟩
      · simp at hc
    · simp at hc
  | _ => simp [slCells] at hc

theorem conv_rep {E : Env} {L : Loc} {w : World} (hm : MemSim E L w) {d d' : D} (hc : Conv L d d') : ∀ v, Rep E w v d → Rep (lentEnv E L) w v d' := by
  induction hc with
  | free d hf => exact fun v hr => hr.free (E' := lentEnv E L) (fun b h => .inl h) (fun _ _ => rfl) hf
  | any d => exact fun v _ => .any v
  | ptr id g off cs ds h1 h2 h3 h4 ih =>
    intro v hr
    obtain ⟨b, f, hb, rfl, hf⟩ := rd_own hm hr h1
    refine .sptr b off ds f (fun _ => .inr hb) (fun i d hd => ?_) (fun i d hd => ?_) h4
    · have hlt : i < cs.length := Nat.lt_of_lt_of_le (List.getElem?_eq_some_iff.1 hd).1 h2
      exact (hf i cs[i] (by simp [hlt])).1
    · have hlt : i < cs.length := Nat.lt_of_lt_of_le (List.getElem?_eq_some_iff.1 hd).1 h2
      exact ih i cs[i] d (by simp [hlt]) hd _ (hf i cs[i] (by simp [hlt])).2
  | sl d es len cs ds h1 h2 h3 h4 h5 h6 ih =>
    intro v hr
    obtain ⟨a, b, off, cap, f, rfl, k1, k2, k3, k4⟩ := sl_own hm hr h1 h6
    refine .slc a len cap es ds b off f (by rw [h3, k1]) k2 h2 (fun hn => ?_) (fun i d hd => ?_) (fun i d hd => ?_) h5
    · have := k3 (by rintro rfl; simp at h3; exact hn h3)
      exact ⟨this.1, .inr this.2⟩
    · have hlt : i < cs.length := by rw [← h3]; exact (List.getElem?_eq_some_iff.1 hd).1
      exact (k4 i cs[i] (by simp [hlt])).1
    · have hlt : i < cs.length := by rw [← h3]; exact (List.getElem?_eq_some_iff.1 hd).1
      exact ih i cs[i] d (by simp [hlt]) hd _ (k4 i cs[i] (by simp [hlt])).2
  | agg cs ds h1 h2 ih =>
    intro v hr
    cases hr with
    | agg vs _ hl hr =>
      refine .agg vs ds (by rw [hl, h1]) fun i v d g1 g2 => ?_
      have hlt : i < cs.length := by rw [← h1]; exact (List.getElem?_eq_some_iff.1 g2).1
      exact ih i cs[i] d (by simp [hlt]) g2 _ (hr i v _ g1 (by simp [hlt]))
  | fn f cs ds h1 h2 ih =>
    intro v hr
    cases hr with
    | fn _ vs _ hl hr =>
      refine .fn f vs ds (by rw [hl, h1]) fun i v d g1 g2 => ?_
      have hlt : i < cs.length := by rw [← h1]; exact (List.getElem?_eq_some_iff.1 g2).1
      exact ih i cs[i] d (by simp [hlt]) g2 _ (hr i v _ g1 (by simp [hlt]))

theorem lent_memSim {E : Env} {L : Loc} {w : World} (hm : MemSim E L w) : MemSim (lentEnv E L) [] w := by
  refine ⟨rfl, fun id => by simp [lentEnv, curOf], fun id B h => by simp at h, fun i j Bi Bj b cb cb' _ h => by simp at h, fun b h => ?_, fun b h => ?_⟩
  · rcases h with h | h
    · exact hm.ltS b h
    · obtain ⟨⟨cur, t, h1⟩, _⟩ := ownB_heap hm h
      exact (Array.getElem?_eq_some_iff.1 h1).1
  · rcases h with h | h
    · exact hm.ltF b h
    · obtain ⟨⟨cur, t, h1⟩, _⟩ := ownB_heap hm h
      exact (Array.getElem?_eq_some_iff.1 h1).1

/-- Behind a call that was lent what it read, all is the walk's own again. -/
theorem lent_back {E E0 E1 : Env} {L L1 : Loc} {w w' : World} (hm : MemSim E L w) (h1 : ∀ b, E.S b → E0.S b) (h2 : ∀ b, E0.S b → E.S b ∨ OwnB E L b) (h3 : ∀ b, E.F b ∨ OwnB E L b → E0.F b) (h4 : E0.n = 0)
    (hev : Ev E0 w E1 w') (hm1 : MemSim E1 L1 w') :
    Ev E w { E with S := fun b => E1.S b ∧ ¬ OwnB E L b } w' ∧ MemSim { E with S := fun b => E1.S b ∧ ¬ OwnB E L b } L w' := by
  have ev : Ev E w { E with S := fun b => E1.S b ∧ ¬ OwnB E L b } w' := by
    refine ⟨hev.os, hev.tape, hev.output, hev.size, rfl, fun b hb => ⟨hev.S b (h1 b hb), fun h => (ownB_heap hm h).2.1 hb⟩, fun b hb => hev.heap b ?_, fun b hb => ?_, fun id b cap h1 h2 h3 => .inr ⟨id, cap, h1, h2, h3⟩, Nat.le_refl _, fun id _ g' h => ⟨g', h, Nat.le_refl _, fun _ => rfl⟩⟩
    · rcases hb with hb | hb
      · exact .inl (h1 b hb)
      · exact .inr (h3 b (.inl hb))
    · rcases hev.newS b hb.1 with h | h | ⟨id, cap, h, _⟩
      · rcases h2 b h with h | h
        · exact .inl h
        · exact absurd h hb.2
      · exact .inr (.inl h)
      · exact absurd h (by omega)
  refine ⟨ev, hm.n, hm.c, fun id B hB => ?_, hm.sep, fun b h => hm1.ltS b h.1, fun b h => Nat.lt_of_lt_of_le (hm.ltF b h) hev.size⟩
  rcases hm.box id B hB with h | ⟨b, cap, cur, t, k1, k2, k3, k4, k5, k6, k7⟩
  · exact .inl h
  · have hown : OwnB E L b := ⟨id, B, cap, hB, k1⟩
    exact .inr ⟨b, cap, cur, t, k1, fun h => h.2 hown, k3, by rw [hev.heap b (.inr (h3 b (.inr hown)))]; exact k4, k5, k6, fun i v d g1 g2 => (k7 i v d g1 g2).ev ev⟩

/-- A function that leaves nothing behind but what it hands back. -/
def Pure (P : Program) (f : FuncId) (ds : List D) (r : D) : Prop := SCall P f [] ds fun _ d => d = r

theorem run_callFunc {f : FuncId} (hp : PlainFn P f) (args : Array Value) (w : World) : (callFunc f args).run P w = .ok (.enter f args) w := by
  obtain ⟨fn, h1, h2, h3⟩ := hp
  simp only [callFunc, Sem.run_bind, run_program, Result.andThen_ok, h1, h2, Bool.false_eq_true, if_false, h3, Sem.run_pure]

theorem wp_call_lent {f : FuncId} {ds : List D} {r : D} (hc : Pure P f ds r) {E : Env} {a : Act} {w : World} {vs : Array Value} (hm : MemSim E s.loc w) (hsz : vs.size = ds.length)
    (hr : ∀ (i : Nat) v d, vs[i]? = some v → ds[i]? = some d → Rep (lentEnv E s.loc) w v d) (hrun : (execOp a.eval o).run P w = .ok (.enter f vs) w) (hflat : r.flat = true) :
    o.wp P a w (fun a' w' => ∃ v E', a' = a.put o.dst v ∧ Rep E' w' v r ∧ MemSim E' s.loc w' ∧ Ev E w E' w') (fun _ _ _ => False) := by
  unfold Oper.wp
  rw [hrun]
  refine (hc.2 (lentEnv E s.loc) w vs (lent_memSim hm) hsz hr).mono ?_
  rintro e w' ⟨v, d, L', E1, rfl, rfl, ev1, hm1, hrep⟩
  obtain ⟨ev, hm'⟩ := lent_back hm (E0 := lentEnv E s.loc) (fun b h => .inl h) (fun b h => h) (fun b h => h) rfl ev1 hm1
  exact ⟨v, _, rfl, hrep.flat hflat, hm', ev⟩
theorem wp_call_free {f : FuncId} {ds : List D} {r : D} (hc : Pure P f ds r) {E : Env} {a : Act} {w : World} {vs : Array Value} (hm : MemSim E s.loc w) (hsz : vs.size = ds.length)
    (hr : ∀ (i : Nat) v d, vs[i]? = some v → ds[i]? = some d → Rep E w v d) (hfr : D.freeAll ds = true) (hrun : (execOp a.eval o).run P w = .ok (.enter f vs) w) (hfree : r.free = true) :
    o.wp P a w (fun a' w' => ∃ v E', a' = a.put o.dst v ∧ Rep E' w' v r ∧ MemSim E' s.loc w' ∧ Ev E w E' w') (fun _ _ _ => False) := by
  unfold Oper.wp
  rw [hrun]
  have hl := lent_memSim hm
  have hm0 : MemSim { lentEnv E s.loc with S := E.S } [] w := ⟨rfl, hl.c, fun id B h => by simp at h, fun i j Bi Bj b cb cb' _ h => by simp at h, hm.ltS, hl.ltF⟩
  refine (hc.2 { lentEnv E s.loc with S := E.S } w vs hm0 hsz (fun i v d h1 h2 => Rep.free (E := E) (E' := { lentEnv E s.loc with S := E.S }) (w := w) (w' := w) (fun _ h => h) (fun _ _ => rfl) (hr i v d h1 h2) (D.freeAll_at hfr h2))).mono ?_
  rintro e w' ⟨v, d, L', E1, rfl, rfl, ev1, hm1, hrep⟩
  obtain ⟨ev, hm'⟩ := lent_back hm (E0 := { lentEnv E s.loc with S := E.S }) (fun b h => h) (fun b h => .inl h) (fun b h => h) rfl ev1 hm1
  refine ⟨v, _, rfl, hrep.free (E' := { E with S := fun b => E1.S b ∧ ¬ OwnB E s.loc b }) (fun b hb => ⟨hb, fun hown => ?_⟩) (fun _ _ => rfl) hfree, hm', ev⟩
  obtain ⟨⟨cur, t, h1⟩, h2, _⟩ := ownB_heap hm hown
  rcases ev1.newS b hb with h | h | ⟨id, cap, h, _⟩
  · exact h2 h
  · have := (Array.getElem?_eq_some_iff.1 h1).1; omega
  · exact absurd h (by simp [lentEnv])

inductive ConvAll (L : Loc) : List D → List D → Prop
  | nil : ConvAll L [] []
  | cons {c d : D} {cs ds : List D} : Conv L c d → ConvAll L cs ds → ConvAll L (c :: cs) (d :: ds)
theorem ConvAll.length {L : Loc} {cs ds : List D} (h : ConvAll L cs ds) : ds.length = cs.length := by induction h <;> simp_all
theorem ConvAll.at {L : Loc} {cs ds : List D} (h : ConvAll L cs ds) : ∀ (i : Nat) c d, cs[i]? = some c → ds[i]? = some d → Conv L c d := by
  induction h with
  | nil => intro i c d h; simp at h
  | cons h _ ih =>
    intro i c d h1 h2
    cases i with
    | zero => simp at h1 h2; subst h1; subst h2; exact h
    | succ i => simp at h1 h2; exact ih i c d h1 h2

/-- A call by a plain name; what it gets is free of the walk's own variables. -/
theorem QOp_call {f : FuncId} {xs : Array Operand} {ts : Array TypeId} {ds : List D} {r : D} (hc : Pure P f ds r) (ho : o.op = .call { callee := .value (.func f), args := xs, argTypes := ts }) (hds : xs.toList.map s.ev = ds) (hfr : D.freeAll ds = true) (hfree : r.free = true) : QOp P o s r := by
  intro E a w _ _ h hm
  refine wp_call_free hc (vs := xs.map a.eval) hm (by rw [← hds]; simp) (fun i v d h1 h2 => ?_) hfr ?_ hfree
  · rw [← hds] at h2
    simp only [Array.getElem?_map, Option.map_eq_some_iff, List.getElem?_map] at h1 h2
    obtain ⟨x, hx, rfl⟩ := h1
    obtain ⟨y, hy, rfl⟩ := h2
    have : x = y := by
      rw [Array.getElem?_toList] at hy; rw [hy] at hx; exact (Option.some.inj hx).symm
    subst this
    exact h x (by simp [ho, Op.operands, Call.operands]; exact .inr (Array.mem_of_getElem? hx))
  · have he : a.eval (.func f) = .func (.func f) #[] #[] := rfl
    simp [execOp, ho, resolve, he, Deferred.ofValue, invoke, run_callFunc hc.1]
/-- The same where variables of the walk's own are lent. -/
theorem QOp_call_l {f : FuncId} {xs : Array Operand} {ts : Array TypeId} {ds : List D} {r : D} (hc : Pure P f ds r) (ho : o.op = .call { callee := .value (.func f), args := xs, argTypes := ts }) (hds : ConvAll s.loc (xs.toList.map s.ev) ds) (hflat : r.flat = true) : QOp P o s r := by
  intro E a w _ _ h hm
  have hlen := hds.length
  refine wp_call_lent hc (vs := xs.map a.eval) hm (by rw [hlen]; simp) (fun i v d h1 h2 => ?_) ?_ hflat
  · simp only [Array.getElem?_map, Option.map_eq_some_iff] at h1
    obtain ⟨x, hx, rfl⟩ := h1
    have h3 : (xs.toList.map s.ev)[i]? = some (s.ev x) := by simp [hx]
    exact conv_rep hm (hds.at i _ d h3 h2) _ (h x (by simp [ho, Op.operands, Call.operands]; exact .inr (Array.mem_of_getElem? hx)))
  · have he : a.eval (.func f) = .func (.func f) #[] #[] := rfl
    simp [execOp, ho, resolve, he, Deferred.ofValue, invoke, run_callFunc hc.1]
/-- A call of a function value. -/
theorem QOp_callv {f : FuncId} {t : Tmp} {cs : List D} {xs : Array Operand} {ts : Array TypeId} {ds : List D} {r : D} (hc : Pure P f ds r) (ho : o.op = .call { callee := .value (.tmp t), args := xs, argTypes := ts }) (hf : s.get t = .fn f cs) (hds : xs.toList.map s.ev ++ cs = ds)
    (hfr : D.freeAll ds = true) (hfree : r.free = true) : QOp P o s r := by
  intro E a w _ _ h hm
  have hv : Rep E w (a.eval (.tmp t)) (.fn f cs) := by
    have := h (.tmp t) (by simp [ho, Op.operands, Call.operands])
    rwa [show s.ev (.tmp t) = s.get t from rfl, hf] at this
  generalize he : a.eval (.tmp t) = v at hv
  cases hv with
  | fn _ vs _ hl hrs =>
    refine wp_call_free hc (vs := xs.map a.eval ++ vs) hm (by rw [← hds]; simp [hl]) (fun i v d h1 h2 => ?_) hfr ?_ hfree
    · rw [← hds] at h2
      by_cases hi : i < xs.size
      · rw [Array.getElem?_append_left (by simpa using hi)] at h1
        rw [List.getElem?_append_left (by simpa using hi)] at h2
        simp only [Array.getElem?_map, Option.map_eq_some_iff, List.getElem?_map] at h1 h2
        obtain ⟨x, hx, rfl⟩ := h1
        obtain ⟨y, hy, rfl⟩ := h2
        have : x = y := by
          rw [Array.getElem?_toList] at hy; rw [hy] at hx; exact (Option.some.inj hx).symm
        subst this
        exact h x (by simp [ho, Op.operands, Call.operands]; exact .inr (Array.mem_of_getElem? hx))
      · rw [Array.getElem?_append_right (by simpa using hi)] at h1
        rw [List.getElem?_append_right (by simpa using hi)] at h2
        simp only [Array.size_map, List.length_map, Array.length_toList] at h1 h2
        exact hrs _ v d h1 h2
    · simp [execOp, ho, resolve, he, Deferred.ofValue, invoke, run_callFunc hc.1]
theorem QOp_callv_l {f : FuncId} {t : Tmp} {cs : List D} {xs : Array Operand} {ts : Array TypeId} {ds : List D} {r : D} (hc : Pure P f ds r) (ho : o.op = .call { callee := .value (.tmp t), args := xs, argTypes := ts }) (hf : s.get t = .fn f cs) (hds : ConvAll s.loc (xs.toList.map s.ev ++ cs) ds)
    (hflat : r.flat = true) : QOp P o s r := by
  intro E a w _ _ h hm
  have hlen := hds.length
  have hv : Rep E w (a.eval (.tmp t)) (.fn f cs) := by
    have := h (.tmp t) (by simp [ho, Op.operands, Call.operands])
    rwa [show s.ev (.tmp t) = s.get t from rfl, hf] at this
  generalize he : a.eval (.tmp t) = v at hv
  cases hv with
  | fn _ vs _ hl hrs =>
    refine wp_call_lent hc (vs := xs.map a.eval ++ vs) hm (by rw [hlen]; simp [hl]) (fun i v d h1 h2 => ?_) ?_ hflat
    · by_cases hi : i < xs.size
      · rw [Array.getElem?_append_left (by simpa using hi)] at h1
        simp only [Array.getElem?_map, Option.map_eq_some_iff] at h1
        obtain ⟨x, hx, rfl⟩ := h1
        have h3 : (xs.toList.map s.ev ++ cs)[i]? = some (s.ev x) := by rw [List.getElem?_append_left (by simpa using hi)]; simp [hx]
        exact conv_rep hm (hds.at i _ d h3 h2) _ (h x (by simp [ho, Op.operands, Call.operands]; exact .inr (Array.mem_of_getElem? hx)))
      · rw [Array.getElem?_append_right (by simpa using hi)] at h1
        simp only [Array.size_map] at h1
        obtain ⟨c, hc'⟩ : ∃ c, cs[i - xs.size]? = some c := by
          have : i - xs.size < cs.length := by rw [← hl]; exact (Array.getElem?_eq_some_iff.1 h1).1
          exact ⟨cs[i - xs.size], by simp [this]⟩
        have h3 : (xs.toList.map s.ev ++ cs)[i]? = some c := by rw [List.getElem?_append_right (by simpa using hi)]; simpa using hc'
        exact conv_rep hm (hds.at i _ d h3 h2) _ (hrs _ v c h1 hc')
    · simp [execOp, ho, resolve, he, Deferred.ofValue, invoke, run_callFunc hc.1]
end
end Go.Proofs.YtcgocdcbceeoiaaGreat
