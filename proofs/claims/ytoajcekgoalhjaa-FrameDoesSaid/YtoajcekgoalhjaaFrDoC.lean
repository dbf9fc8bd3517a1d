/-
  frame, the law: FrameDoes.
-/
import Derived.Test.YtoajcekgoalhjaaFrDoB
set_option linter.all false
namespace Go.Proofs.Ytoajcekgoalhjaa
open Go.ChangeShapes Go.WideShapes Go.ChangeAt Go.RowKit Go.Lm
set_option linter.unusedSimpArgs false
set_option linter.unusedVariables false
set_option maxRecDepth 10000
theorem np73 : Try.prog.underlying 73 = some (.pointer 111) := by kernel_rfl
section
variable {F : Nat → Prop} {g h h' : LHeap} {x y m a k c : Nat} {st : FSt} {S Q : Nat → Prop} {V U OV : LV} {l l2 bs : List Int} {Ts : List Thing}
/-- The ops, one after the other. -/
theorem does_all {ops : List FOp} (wf : g.Wf) (R : Row g OV fopE ops) (hl : ops.length * 24 ≤ 140737488351232) (hin : ∀ o ∈ ops, inI o.1 ∧ inI o.2.1 ∧ inI o.2.2) (f0 : Fr noF g h) (Sp : Sep noF h h' [FBox x m S st, RBox y Q st]) (R' : Row h' OV fopE ops) (f1 : Fr noF g h') :
    J7_8 OV (.ptr m 0) (.ptr x 0) (.ptr y 0) h' fun v _ => v = .bool true := by
  have hlen := R'.len (P := Try.prog) ty43
  simp (disch := omega) only [J7_8, J7_10, i, sh, sh2, shi, dec, b_len, hlen]
  refine loop_n (fun nn s h1 => ∃ (k : Nat) (st : FSt) (S Q : Nat → Prop), s = i (k : Int) ∧ k + nn = ops.length ∧ Sep noF h h1 [FBox x m S st, RBox y Q st]) (n := ops.length) ⟨0, st, S, Q, rfl, by omega, Sp⟩ ?_
  rintro nn s h1 ⟨k, st, S, Q, rfl, hk, Sk⟩
  cases nn with
  | zero =>
    simp (disch := omega) only [L7_11, J7_9, i, sh, sh2, shi, dec]
    refine (looks_ok Sk).mono ?_
    rintro _ _ ⟨rfl, _⟩
    trivial
  | succ nn =>
    obtain ⟨o, ho, hd⟩ := drop_at (l := ops) (k := k) (by omega)
    have RO := R.old wf (f0.trans Sk.fr)
    have hix := RO.ix (k := .i64) (i := k) (by omega)
    have hld := RO.ld ho
    have he : fopE.e = 3 := rfl
    rw [he] at hix hld
    obtain ⟨N, n1, n2⟩ := new_fop h1 o
    have S5 : Sep noF h (h1.alloc (.cells (fopE.f o) .ex)) [FBox x m S st, RBox y Q st] := Sk.temp _
    have hget : (h1.alloc (.cells (fopE.f o) .ex)).get h1.next = some (.cells (fopE.f o) .ex) := get_alloc_eq _ _
    generalize h1.alloc (.cells (fopE.f o) .ex) = h5 at *
    have hag : cellO (some 3) 0 (some (.cells (fopE.f o) .ex)) = some (.agg (fopE.f o)) := rfl
    simp (disch := omega) only [L7_11, i, sh, sh2, shi, dec, hix, hld, n1, n2, hget, hag]
    refine (does_ok S5 o (hin o (List.mem_of_getElem? ho))).mono ?_
    rintro _ h6 ⟨rfl, st', S', Q', S6⟩
    simp (disch := omega) only [i, sh, sh2, shi, dec]
    exact ⟨nn, by omega, k + 1, st', S', Q', rfl, by omega, S6⟩
theorem does_new {ops : List FOp} {frames first count harts : Int} (wf : g.Wf) (R : Row g OV fopE ops) (hl : ops.length * 24 ≤ 140737488351232) (hin : ∀ o ∈ ops, inI o.1 ∧ inI o.2.1 ∧ inI o.2.2) (f0 : Fr noF g h) (i1 : inI first) (i2 : inI count) (k0 : 1 ≤ frames) (k1 : frames ≤ 4096)
    (Sp : Sep noF h h' (memTs m a bs ++ [])) (hb : bs.length = 256 * frames.toNat) :
    J7_4 (i frames) (i first) (i count) (i harts) OV (.ptr m 0) h' fun v _ => v = .bool true := by
  have hq : ((bs.length / 256 : Nat) : Int) = frames := by omega
  have nb2 : binL Try.prog .neq 4 false (.bool false) (.bool false) = some (.bool false) := neq_b false false
  have nb1 : binL Try.prog .neq 4 false (.bool true) (.bool true) = some (.bool false) := neq_b true true
  have n1 : binL Try.prog .neq 47 true .nilp .nilp = some (.bool false) := nr (by kernel_rfl)
  have n2 : binL Try.prog .neq 73 true .nilp .nilp = some (.bool false) := nr (by kernel_rfl)
  have n3 : binL Try.prog .eql 73 true .nilp .nilp = some (.bool true) := nr (by kernel_rfl)
  by_cases hn : newOk frames first count harts
  · have hn' := hn
    obtain ⟨c1, c2, c3, c4, c5⟩ := hn'
    obtain ⟨n, rfl⟩ : ∃ n : Nat, count = n := ⟨count.toNat, by omega⟩
    obtain ⟨q, rfl⟩ : ∃ n : Nat, harts = n := ⟨harts.toNat, by omega⟩
    simp (disch := omega) only [J7_4]
    refine (frNew_at (n := n) (harts := q) (first := first) Sp (by omega) (by omega) (by omega) (by rw [hq]; exact hn)).mono ?_
    rintro _ h2 ⟨x, S', rfl, S2⟩
    simp (disch := omega) only [i, sh, sh2, J7_5]
    refine (RNew_ok (bs := bs) S2 k1 hn (boxWf (S2.at 0 rfl))).mono ?_
    rintro _ h3 ⟨y, Q, rfl, S3⟩
    have S4 : Sep noF h h3 [FBox x m S' (newS first n q bs), RBox y Q (newS first n q bs)] := S3.perm (List.Perm.swap _ _ _)
    simp (disch := omega) only [i, sh, sh2, J7_6, J7_7, neq_f, nil_p fp_t true, nil_p np73 true, nb1]
    exact does_all wf R hl hin f0 S4 (R.old wf (f0.trans S4.fr)) (f0.trans S4.fr)
  · have M : MemAt h' m a bs := ⟨Sp.cell 1 rfl, Sp.cell 0 rfl, by omega, by omega, by omega⟩
    simp (disch := omega) only [J7_4]
    refine (frNew_no M i1.2 i2.2 (by rw [hq]; exact hn)).mono ?_
    rintro _ _ ⟨rfl, rfl⟩
    simp (disch := omega) only [i, sh, sh2, J7_5]
    refine (RNew_no (by omega) k1 i1.2 hn).mono ?_
    rintro _ _ ⟨rfl, rfl⟩
    simp (disch := omega) only [i, sh, sh2, J7_6, J7_7, neq_f, n1, n2, n3, nb2]
theorem does_any {ops : List FOp} (R : Row g OV fopE ops) (hl : ops.length * 24 ≤ 140737488351232) (hin : ∀ o ∈ ops, inI o.1 ∧ inI o.2.1 ∧ inI o.2.2) {frames first count harts : Int} (i1 : inI first) (i2 : inI count) : Ok Try.prog 7 [i frames, i first, i count, i harts, OV] g fun v _ => v = .bool true := by
  refine ok7 fun wf lt => ?_
  simp (disch := omega) only [F7, J7_0]
  refine awake_ok.mono ?_
  rintro _ h0 ⟨rfl, f0⟩
  simp (disch := omega) only [i, sh, sh2, J7_1]
  have e1 : binL Try.prog .eql 44 true .nilp .nilp = some (.bool true) := nr (by kernel_rfl)
  have e2 : binL Try.prog .eql 47 true .nilp .nilp = some (.bool true) := nr (by kernel_rfl)
  by_cases hf : 1 ≤ frames ∧ frames ≤ 4096
  · refine (memNew_ok (x := frames) hf.1 hf.2).mono ?_
    rintro _ h1 ⟨m, a, rfl, S1⟩
    rw [← List.append_nil (memTs m a _)] at S1
    have hb : (zerosB (256 * frames.toNat)).length = 256 * frames.toNat := by unfold zerosB; rw [List.length_replicate]
    generalize zerosB (256 * frames.toNat) = bs at *
    simp (disch := omega) only [i, sh, sh2, shi, dec, J7_2, J7_3, nil_p ph_tp true]
    by_cases hff : 0 ≤ first ∧ first < frames
    · simp (disch := omega) only [i, sh, sh2, shi, dec]
      have M : MemAt h1 m a bs := ⟨S1.cell 1 rfl, S1.cell 0 rfl, by omega, by omega, by omega⟩
      refine (Store32_ok M (256 * first) (by omega) 9).mono ?_
      rintro _ h2 ⟨rfl, M2⟩
      have sp : spanIn bs (256 * first) 4 := by unfold spanIn; omega
      rw [if_pos ⟨by omega, sp⟩] at M2
      have hl2 : (putB bs (256 * first).toNat (wordB 9 4)).length = bs.length := putB_len (by rw [wordB_len]; unfold spanIn at sp; omega)
      have S2 := S1.put 0 rfl (Thing.cells a ((putB bs (256 * first).toNat (wordB 9 4)).map B8)) M2.fr M2.at_ fun b hb => ⟨.inl hb, Nat.lt_of_lt_of_le (S1.lt 0 rfl hb) M2.fr.le⟩
      have S2 : Sep noF h0 h2 (memTs m a (putB bs (256 * first).toNat (wordB 9 4)) ++ []) := by
        unfold memTs
        rw [hl2]
        exact S2
      exact does_new wf R hl hin f0 i1 i2 hf.1 hf.2 S2 (hl2.trans hb)
    · by_cases h00 : 0 ≤ first
      · simp (disch := omega) only [i, sh, sh2, shi, dec]
        exact does_new wf R hl hin f0 i1 i2 hf.1 hf.2 S1 hb
      · simp (disch := omega) only [i, sh, sh2, shi, dec]
        exact does_new wf R hl hin f0 i1 i2 hf.1 hf.2 S1 hb
  · refine (memNew_no hf).mono ?_
    rintro _ _ ⟨rfl, rfl⟩
    simp (disch := omega) only [i, sh, sh2, shi, dec, J7_2, neq_t]
    refine (frNew_nil first count harts).mono ?_
    rintro _ _ ⟨rfl, rfl⟩
    simp (disch := omega) only [i, sh, sh2, shi, dec, e1, e2, eq_t]
end
end Go.Proofs.Ytoajcekgoalhjaa
