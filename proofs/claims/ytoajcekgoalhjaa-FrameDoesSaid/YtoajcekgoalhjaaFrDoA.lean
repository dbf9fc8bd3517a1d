/-
  frame, the law: does.
-/
import Derived.Test.YtoajcekgoalhjaaFrZ
set_option linter.all false
namespace Go.Proofs.Ytoajcekgoalhjaa
open Go.ChangeShapes Go.WideShapes Go.ChangeAt Go.RowKit Go.Lm
set_option linter.unusedSimpArgs false
set_option linter.unusedVariables false
set_option maxRecDepth 10000
theorem alloc_zero {st : FSt} (w : FWf st) {k : Int} (h : (allocS st k).2.2 = 0) : zeroP (allocS st k).1.bs (allocS st k).2.1 = true := by
  by_cases hk : st.isH k
  · unfold FSt.isH at hk
    obtain ⟨k, rfl⟩ : ∃ n : Nat, k = n := ⟨k.toNat, by omega⟩
    rcases alloc_said w (k := k) (by omega) with ⟨_, _, hin, _, hz, _, _, hb, _⟩ | ⟨_, e, _⟩
    · unfold zeroP
      rw [hb, hz, decide_eq_true (w.frameIn hin), Bool.true_and, List.all_eq_true]
      intro y hy
      rw [(List.mem_replicate.1 hy).2]; rfl
    · rw [e] at h; cases h
  · unfold allocS at h
    rw [if_neg hk] at h
    cases h
theorem decr_zero {st : FSt} (w : FWf st) {k y : Int} (h : (decrS st k y).2.1 = true) : zeroP (decrS st k y).1.bs y = true := by
  unfold decrS at h ⊢
  by_cases hk : st.isH k
  · rw [if_pos hk] at h ⊢
    by_cases h0 : st.cnt y = 0
    · rw [if_pos h0] at h; cases h
    · rw [if_neg h0] at h ⊢
      by_cases h1 : 0 < st.cnt y - 1
      · rw [if_pos h1] at h; cases h
      · rw [if_neg h1]
        have hin := w.frameIn (cnt_pos h0)
        have hb : (backS (setC st y 0) k.toNat y).bs = zeroF st.bs y := by unfold backS; split <;> rfl
        show zeroP (backS (setC st y 0) k.toNat y).bs y = true
        unfold zeroP
        rw [hb, frameB_zeroed hin, decide_eq_true ((frameIn_len (zeroF_len _ _) y).2 hin), Bool.true_and, List.all_eq_true]
        intro z hz
        rw [(List.mem_replicate.1 hz).2]; rfl
  · rw [if_neg hk] at h; cases h
theorem and63 (a : Int) : ∃ r : Nat, r ≤ 63 ∧ binL Try.prog .and 3 true (.int .i64 a) (.int .i64 63) = some (.int .i64 (r : Int)) := by
  have e : binL Try.prog .and 3 true (.int .i64 a) (.int .i64 63) = ofPure (Op.intBits .and .i64 a 63) := nr rfl
  have hb : IntKind.i64.bits = 64 := rfl
  refine ⟨((BitVec.ofInt IntKind.i64.bits a) &&& (BitVec.ofInt IntKind.i64.bits 63)).toNat, ?_, ?_⟩
  · rw [BitVec.toNat_and]
    have h63 : (BitVec.ofInt IntKind.i64.bits 63).toNat = 63 := by decide
    rw [h63]
    exact Nat.and_le_right
  · rw [e]
    have hle : ((BitVec.ofInt IntKind.i64.bits a) &&& (BitVec.ofInt IntKind.i64.bits 63)).toNat ≤ 63 := by
      rw [BitVec.toNat_and]
      have h63 : (BitVec.ofInt IntKind.i64.bits 63).toNat = 63 := by decide
      rw [h63]
      exact Nat.and_le_right
    show some (LV.int .i64 (IntKind.i64.wrap _)) = _
    rw [wrap_in (by omega) (by omega)]
theorem eq_bb (b : Bool) : binL Try.prog .eql 4 false (.bool b) (.bool b) = some (.bool true) := by cases b <;> exact nr (by kernel_rfl)
section
variable {F : Nat → Prop} {g h h' : LHeap} {x y m a k c : Nat} {st : FSt} {S Q : Nat → Prop} {V U : LV} {l l2 : List Int}
theorem RBox.wr (B : (RBox y Q st).ok h) {addr v : Int} (w : FWf (wrS st addr v)) : (RBox y Q (wrS st addr v)).ok h := by
  obtain ⟨Ts, ⟨CV, SV, CC, rs, e, hl, _⟩, h2, h3, h4⟩ := B
  exact ⟨Ts, ⟨CV, SV, CC, rs, e, hl, w⟩, h2, h3, h4⟩
set_option maxHeartbeats 2000000 in
theorem does_ok (Sp : Sep F g h [FBox x m S st, RBox y Q st]) (o : FOp) (ho : inI o.1 ∧ inI o.2.1 ∧ inI o.2.2) : Ok Try.prog 37 [.ptr m 0, .ptr x 0, .ptr y 0, .agg (fopE.f o)] h fun v h' => v = .bool true ∧ ∃ st' S' Q', Sep F g h' [FBox x m S' st', RBox y Q' st'] := by
  refine ok37 fun _ _ => ?_
  obtain ⟨ok, oh, of⟩ := o
  obtain ⟨_, _, of0, of1⟩ := ho
  simp only at of0 of1
  have w := boxWf (Sp.at 0 rfl)
  have hn : newL (.agg (fopE.f (ok, oh, of))) h = some (.ptr h.next 0, h.alloc (.cells (fopE.f (ok, oh, of)) .ex)) := new_agg _ _ (fopE.cell (ok, oh, of))
  have S1 := Sp.new (fopE.f (ok, oh, of))
  obtain ⟨o0, o1, o2⟩ := fop_c (ok, oh, of)
  simp only at o0 o1 o2
  generalize h.alloc (.cells (fopE.f (ok, oh, of)) .ex) = h1 at *
  have S1 : Sep F g h1 [FBox x m S st, RBox y Q st, Thing.cells h.next (fopE.f (ok, oh, of))] := S1
  have htm := S1.cell (a := h.next) (vs := fopE.f (ok, oh, of)) 2 rfl
  generalize h.next = t7 at *
  simp (disch := omega) only [F37, i, sh, sh2, shi, dec, hn, htm, o0]
  by_cases k0 : ok = 0
  · subst k0
    simp (disch := omega) only [i, sh, sh2, shi, dec, htm, o1]
    refine (Alloc_ok (S1.at 0 rfl) (S1.boxlt 0 rfl) oh).mono ?_
    rintro _ h2 ⟨rfl, A2⟩
    obtain ⟨S2', S2⟩ := S1.call 0 rfl A2
    have S2 : Sep F g h2 [FBox x m S2' (allocS st oh).1, RBox y Q st, Thing.cells t7 (fopE.f (0, oh, of))] := S2
    have htm2 := S2.cell (a := t7) (vs := fopE.f (0, oh, of)) 2 rfl
    simp (disch := omega) only [i, sh, sh2, shi, dec, htm2, o1]
    refine (RAlloc_ok (S2.at 1 rfl) (S2.boxlt 1 rfl) oh).mono ?_
    rintro _ h3 ⟨rfl, A3⟩
    obtain ⟨Q3', S3⟩ := S2.call 1 rfl A3
    have S3 : Sep F g h3 [FBox x m S2' (allocS st oh).1, RBox y Q3' (allocS st oh).1, Thing.cells t7 (fopE.f (0, oh, of))] := S3
    by_cases he : (allocS st oh).2.2 = 0
    · have hz := alloc_zero w he
      simp (disch := omega) only [i, sh, sh2, shi, dec, eq_t, neq_f]
      refine (zero23_ok (S3.at 0 rfl) (S3.boxlt 0 rfl) (allocS st oh).2.1).mono ?_
      rintro _ h4 ⟨rfl, f4⟩
      rw [hz]
      simp (disch := omega) only [i, sh, sh2, shi, dec]
      exact ⟨trivial, _, _, _, (S3.pure f4).sub (.cons_cons _ (.cons_cons _ (.cons _ .slnil)))⟩
    · simp (disch := omega) only [i, sh, sh2, shi, dec, eq_t, neq_t]
      exact ⟨trivial, _, _, _, S3.sub (.cons_cons _ (.cons_cons _ (.cons _ .slnil)))⟩
  simp (disch := omega) only [i, sh, sh2, shi, dec]
  by_cases k1 : ok = 1
  · subst k1
    simp (disch := omega) only [i, sh, sh2, shi, dec, htm, o1, o2]
    refine (Decr_ok (S1.at 0 rfl) (S1.boxlt 0 rfl) oh of of0 of1).mono ?_
    rintro _ h2 ⟨rfl, A2⟩
    obtain ⟨S2', S2⟩ := S1.call 0 rfl A2
    have S2 : Sep F g h2 [FBox x m S2' (decrS st oh of).1, RBox y Q st, Thing.cells t7 (fopE.f (1, oh, of))] := S2
    have htm2 := S2.cell (a := t7) (vs := fopE.f (1, oh, of)) 2 rfl
    simp (disch := omega) only [i, sh, sh2, shi, dec, htm2, o1, o2]
    refine (RDecr_ok (S2.at 1 rfl) (S2.boxlt 1 rfl) oh of of1).mono ?_
    rintro _ h3 ⟨rfl, A3⟩
    obtain ⟨Q3', S3⟩ := S2.call 1 rfl A3
    have S3 : Sep F g h3 [FBox x m S2' (decrS st oh of).1, RBox y Q3' (decrS st oh of).1, Thing.cells t7 (fopE.f (1, oh, of))] := S3
    have htm3 := S3.cell (a := t7) (vs := fopE.f (1, oh, of)) 2 rfl
    cases he : (decrS st oh of).2.1 with
    | true =>
      have hz := decr_zero w he
      simp (disch := omega) only [i, sh, sh2, shi, dec, eq_t, eq_bb, htm3, o2]
      refine (zero23_ok (S3.at 0 rfl) (S3.boxlt 0 rfl) of).mono ?_
      rintro _ h4 ⟨rfl, f4⟩
      rw [hz]
      simp (disch := omega) only [i, sh, sh2, shi, dec]
      exact ⟨trivial, _, _, _, (S3.pure f4).sub (.cons_cons _ (.cons_cons _ (.cons _ .slnil)))⟩
    | false =>
      simp (disch := omega) only [i, sh, sh2, shi, dec, eq_t, eq_bb]
      exact ⟨trivial, _, _, _, S3.sub (.cons_cons _ (.cons_cons _ (.cons _ .slnil)))⟩
  simp (disch := omega) only [i, sh, sh2, shi, dec]
  by_cases k2 : ok = 2
  · subst k2
    simp (disch := omega) only [i, sh, sh2, shi, dec, htm, o2]
    refine ⟨?_, trivial⟩
    refine (Incr_ok (S1.at 0 rfl) (S1.boxlt 0 rfl) of of0 of1).mono ?_
    rintro _ h2 ⟨rfl, A2⟩
    obtain ⟨S2', S2⟩ := S1.call 0 rfl A2
    have S2 : Sep F g h2 [FBox x m S2' (incrS st of).1, RBox y Q st, Thing.cells t7 (fopE.f (2, oh, of))] := S2
    have htm2 := S2.cell (a := t7) (vs := fopE.f (2, oh, of)) 2 rfl
    simp (disch := omega) only [i, sh, sh2, shi, dec, htm2, o2]
    refine ⟨trivial, ?_, trivial⟩
    refine (RIncr_ok (S2.at 1 rfl) (S2.boxlt 1 rfl) of of1).mono ?_
    rintro _ h3 ⟨rfl, A3⟩
    obtain ⟨Q3', S3⟩ := S2.call 1 rfl A3
    have S3 : Sep F g h3 [FBox x m S2' (incrS st of).1, RBox y Q3' (incrS st of).1, Thing.cells t7 (fopE.f (2, oh, of))] := S3
    have htm3 := S3.cell (a := t7) (vs := fopE.f (2, oh, of)) 2 rfl
    simp (disch := omega) only [i, sh, sh2, shi, dec, htm3, o2, eq_t]
    refine ⟨?_, trivial⟩
    refine (countB (S3.at 0 rfl) (S3.boxlt 0 rfl) of of0 of1).mono ?_
    rintro _ _ ⟨rfl, rfl⟩
    simp (disch := omega) only [i, sh, sh2, shi, dec, htm3, o2, eq_t]
    refine ⟨trivial, ?_, trivial⟩
    refine (rcountB (S3.at 1 rfl) (S3.boxlt 1 rfl) of of1).mono ?_
    rintro _ _ ⟨rfl, rfl⟩
    simp (disch := omega) only [i, sh, sh2, shi, dec, eq_t]
    exact ⟨trivial, _, _, _, S3.sub (.cons_cons _ (.cons_cons _ (.cons _ .slnil)))⟩
  simp (disch := omega) only [i, sh, sh2, shi, dec]
  by_cases k3 : ok = 3
  · subst k3
    simp (disch := omega) only [i, sh, sh2, shi, dec, htm, o1, o2]
    refine (rcountB (S1.at 1 rfl) (S1.boxlt 1 rfl) of of1).mono ?_
    rintro _ _ ⟨rfl, rfl⟩
    by_cases hc : 0 < st.cnt of
    · obtain ⟨q, hq, ha⟩ := and63 oh
      have hin := cnt_pos (st := st) (y := of) (by omega)
      have bd := w.bounds
      have hin' := hin
      unfold FSt.inR at hin'
      simp (disch := omega) only [i, sh, sh2, shi, dec, htm, o1, o2, ha]
      refine (storeM (S1.at 0 rfl) (S1.boxlt 0 rfl) (y := of) 7 (by omega) (by omega) (by omega) (by omega)).mono ?_
      rintro _ h2 ⟨rfl, A2⟩
      obtain ⟨S2', S2⟩ := S1.call 0 rfl A2
      have S2 : Sep F g h2 [FBox x m S2' (wrS st (256 * of + 4 * (q : Int)) 7), RBox y Q st, Thing.cells t7 (fopE.f (3, oh, of))] := S2
      have S3 := S2.put 1 rfl (RBox y Q (wrS st (256 * of + 4 * (q : Int)) 7)) (Fr.refl _ _) (RBox.wr (S2.at 1 rfl) (boxWf (S2.at 0 rfl))) fun b hb => ⟨.inl hb, S2.lt (T := RBox y Q st) 1 rfl hb⟩
      simp (disch := omega) only [i, sh, sh2, shi, dec]
      exact ⟨trivial, _, _, _, S3.sub (.cons_cons _ (.cons_cons _ (.cons _ .slnil)))⟩
    · simp (disch := omega) only [i, sh, sh2, shi, dec]
      exact ⟨trivial, _, _, _, S1.sub (.cons_cons _ (.cons_cons _ (.cons _ .slnil)))⟩
  simp (disch := omega) only [i, sh, sh2, shi, dec]
  by_cases k4 : ok = 4
  · subst k4
    simp (disch := omega) only [i, sh, sh2, shi, dec]
    refine (looks_ok (S1.sub (.cons_cons _ (.cons_cons _ (.cons _ .slnil))))).mono ?_
    rintro _ h2 ⟨rfl, S', Q', S2⟩
    exact ⟨rfl, _, _, _, S2⟩
  · simp (disch := omega) only [i, sh, sh2, shi, dec]
    exact ⟨trivial, _, _, _, S1.sub (.cons_cons _ (.cons_cons _ (.cons _ .slnil)))⟩
end
end Go.Proofs.Ytoajcekgoalhjaa
