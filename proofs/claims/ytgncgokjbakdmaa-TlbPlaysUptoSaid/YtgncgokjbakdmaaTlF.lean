/-
  parapetlaw07.TlbForgets returns true: the law.
-/
import Derived.Test.YtgncgokjbakdmaaTlB
set_option linter.all false
namespace Go.Proofs.Ytgncgokjbakdmaa
open Go.ChangeShapes Go.WideShapes Go.ChangeAt Go.RowKit Go.Lm
set_option linter.unusedSimpArgs false
section
variable {F : Nat → Prop} {g h h' : LHeap} {t : Nat} {st : TSt} {S : Nat → Prop}
theorem u32_f (e : Int) : LV.int .u32 e = u32V e := rfl
/-- An op's fields. -/
theorem op_at {V : LV} {l : List OpX} (R : Row h V opE l) {k : Nat} {o : OpX} (ho : l[k]? = some o) : ixAddrL none 7 V (.int .i64 (k : Int)) = some (V.at 7 k) ∧ ∃ a off, V.at 7 k = .ptr a off ∧ cellO none off (h.get a) = some (i o.kind) ∧ cellO none (off + 1) (h.get a) = some (i o.hart) ∧ cellO (some 2) (off + 2) (h.get a) = some (.agg (keyE.f o.key)) ∧ cellO none (off + 2) (h.get a) = some (i o.key.1) ∧ cellO none (off + 4) (h.get a) = some (u32V o.e) ∧
    cellO (some 7) off (h.get a) = some (.agg (opE.f o)) := by
  obtain ⟨a, off, e, hf, hg⟩ := R.fla ho
  have e7 : opE.e = 7 := rfl
  rw [e7] at e
  have := R.ld ho
  rw [e7, e, load_o] at this
  exact ⟨R.ix (k := .i64) (List.getElem?_eq_some_iff.1 ho).1, a, off, e, hf 0 _ rfl, hf 1 _ rfl, hg 2 2 (by decide), hf 2 _ rfl, hf 4 _ rfl, this⟩
def filled (st : TSt) (ops : List OpX) : TSt := ops.foldl (fun st o => fillOp st o.hart o.key o.e) st
theorem filled_len (st : TSt) (ops : List OpX) : (filled st ops).harts.length = st.harts.length := by
  unfold filled
  induction ops generalizing st with
  | nil => rfl
  | cons o ops ih => rw [List.foldl_cons, ih, fillOp_len]
theorem gone_at (sp : Int) : ∀ (l : List KEnt) (j : Nat) (p : KEnt), l[j]? = some p → p.1.1 ≠ sp → (goneK l sp)[(goneK (l.take j) sp).length]? = some p
  | [], _, _, h, _ => by simp at h
  | q :: l, 0, p, h, hp => by
    simp only [List.getElem?_cons_zero, Option.some.injEq] at h
    subst h
    simp [goneK, hp]
  | q :: l, j + 1, p, h, hp => by
    have ih := gone_at sp l j p (by simpa using h) hp
    simp only [goneK, List.take_succ_cons, List.filter_cons] at ih ⊢
    by_cases hq : (q.1.1 == sp) = true
    · simpa [hq] using ih
    · simpa [hq] using ih
theorem gone_snoc (sp : Int) {l : List KEnt} {j : Nat} {p : KEnt} (h : l[j]? = some p) : (goneK (l.take (j + 1)) sp).length = (goneK (l.take j) sp).length + if p.1.1 = sp then 0 else 1 := by
  rw [take_snoc h, goneK, List.filter_append, List.length_append]
  by_cases hp : p.1.1 = sp <;> simp [goneK, hp]
set_option maxRecDepth 10000 in
set_option maxHeartbeats 1000000 in
theorem forgets_any {V : LV} {ops : List OpX} (R : Row g V opE ops) (hl : ops.length < 9223372036854775808) (sp : Int) : Ok Try.prog 7 [V, i sp] g fun v _ => v = .bool true := by
  refine ok7 fun wf _ => ?_
  simp (disch := omega) only [F7, J7_0]
  refine (New_ok 4 8).mono ?_
  rintro _ h1 (⟨hn, _⟩ | ⟨_, t, S, rfl, B, f1, nw⟩)
  · omega
  have S1 : Sep noF g h1 [TBox t S (newT 4 8)] := (Sep.start noF g).add _ f1 B nw
  have hlen := R.len (P := Try.prog) ty35
  simp (disch := omega) only [J7_1, i, sh, sh2, shi, dec, nil_p ty36 true]
  refine lives_pure.to ?_
  simp (disch := omega) only [sh, sh2, J7_2, J7_16]
  refine loop_n (fun n s h => ∃ (k : Nat) (S : Nat → Prop), s = i (k : Int) ∧ k + n = ops.length ∧ Sep noF g h [TBox t S (filled (newT 4 8) (ops.take k))]) (n := ops.length) ⟨0, S, rfl, by omega, S1⟩ ?_
  rintro n s h ⟨k, S, rfl, hk, Sk⟩
  cases n with
  | succ n =>
    obtain ⟨o, ho, hd⟩ := drop_at (l := ops) (k := k) (by omega)
    obtain ⟨ix, a, off, hat, l0, l1, l2, l3, l4, _⟩ := op_at (R.old wf Sk.fr) ho
    simp (disch := omega) only [L7_17, i, sh, sh2, shi, dec, b_len, hlen, ix, hat, l1, l2, l4, shc]
    refine (Fill_ok' (Sk.at 0 rfl) (Sk.boxlt 0 rfl) o.hart o.key o.e).mono ?_
    rintro _ h2 ⟨_, A⟩
    obtain ⟨S', S2⟩ := Sk.call 0 rfl A
    refine ⟨n, by omega, k + 1, S', by simp, by omega, ?_⟩
    rw [take_snoc ho]
    unfold filled
    rw [List.foldl_append]
    exact S2
  | zero =>
    simp (disch := omega) only [L7_17, i, sh, sh2, shi, dec, b_len, hlen, J7_3, J7_5]
    have h4 : (filled (newT 4 8) (ops.take k)).harts.length = 4 := by rw [filled_len]; rfl
    generalize filled (newT 4 8) (ops.take k) = st at Sk h4
    refine loop_n (fun n s h => ∃ (k : Nat) (S : Nat → Prop) (st : TSt), s = i (k : Int) ∧ k + n = 4 ∧ st.harts.length = 4 ∧ Sep noF g h [TBox t S st]) (n := 4) ⟨0, S, st, rfl, rfl, h4, Sk⟩ ?_
    clear Sk h4
    rintro n s h ⟨k, S, st, rfl, hk, h4, Sk⟩
    cases n with
    | zero => simp (disch := omega) only [L7_6, J7_4, i, sh, sh2, shi, dec]
    | succ n =>
      simp (disch := omega) only [L7_6, J7_7, i, sh, sh2, shi, dec]
      refine (Kept_ok (Sk.at 0 rfl) (Sk.boxlt 0 rfl) k).mono ?_
      rintro V1 h1 ⟨O1, m1, f1⟩
      have S1 := Sk.vec V1 O1.row O1.grow m1 f1 O1.lo
      simp (disch := omega) only [J7_9]
      refine (Flush_ok' (S1.at 0 rfl) (S1.boxlt 0 rfl) k sp).mono ?_
      rintro _ h2 ⟨rfl, A⟩
      obtain ⟨S', S2⟩ := S1.call 0 rfl A
      have hin : st.inR k := ⟨by omega, by omega⟩
      have tw := box_wf (Sk.at 0 rfl)
      have hw := hart_wf tw k
      have hfl : (flushOp st k sp).hart k = goneK (st.hart k) sp := by unfold flushOp; rw [if_pos hin, hart_set hin, if_pos rfl]
      simp (disch := omega) only [J7_10]
      refine (Kept_ok (S2.at 0 rfl) (S2.boxlt 0 rfl) k).mono ?_
      rintro V3 h3 ⟨O3, m3, f3⟩
      have S3 := S2.vec V3 O3.row O3.grow m3 f3 O3.lo
      rw [hfl] at S3
      generalize hkl : st.hart k = l at *
      have hgl : (goneK l sp).length ≤ l.length := List.length_filter_le _ _
      simp (disch := omega) only [J7_11, J7_12, J7_14]
      refine loop_n (fun nn s h => ∃ (j : Nat), s = (i ((goneK (l.take j) sp).length : Int), i (j : Int)) ∧ j + nn = l.length ∧ Sep noF g h [TBox t S' (flushOp st k sp), Thing.vec keyE V1 (l.map fun p : KEnt => p.1), Thing.vec keyE V3 ((goneK l sp).map fun p : KEnt => p.1)]) (n := l.length) ⟨0, rfl, by omega, S3⟩ ?_
      rintro nn s h5 ⟨j, rfl, hj, S5⟩
      have hl1 := (S5.row (E := keyE) (V := V1) (l := l.map (·.1)) 1 rfl).len (P := Try.prog) ty50
      have hl3 := (S5.row (E := keyE) (V := V3) (l := (goneK l sp).map (·.1)) 2 rfl).len (P := Try.prog) ty50
      rw [List.length_map] at hl1 hl3
      cases nn with
      | zero =>
        rw [List.take_of_length_le (by omega)]
        simp (disch := omega) only [L7_15, J7_13, J7_8, i, sh, sh2, shi, dec, b_len, hl1, hl3]
        exact ⟨n, by omega, k + 1, S', flushOp st k sp, by simp, by omega, by rw [flushOp_len]; exact h4, (S5.init (Ts := [_, _])).init (Ts := [_])⟩
      | succ nn =>
        obtain ⟨p, hp, _⟩ := drop_at (l := l) (k := j) (by omega)
        have hp1 : (l.map (·.1))[j]? = some p.1 := by rw [List.getElem?_map, hp]; rfl
        have R1 := S5.row (E := keyE) (V := V1) (l := l.map (·.1)) 1 rfl
        have ix1 := R1.ix (k := .i64) (i := j) (by rw [List.length_map]; omega)
        obtain ⟨a, off, hat, hf, hg⟩ := R1.fla hp1
        have e2 : keyE.e = 2 := rfl
        rw [e2] at ix1 hat hg
        have hc0 : cellO none off (h5.get a) = some (i p.1.1) := hf 0 _ rfl
        have hc2 : cellO (some 2) off (h5.get a) = some (.agg (keyE.f p.1)) := hg 0 2 (by decide)
        have hsn := gone_snoc sp hp
        by_cases hs : p.1.1 = sp
        · simp (disch := omega) only [L7_15, i, sh, sh2, shi, dec, b_len, hl1, ix1, hat, hc0, hc2]
          refine (Look_ok (S5.at 0 rfl) (S5.boxlt 0 rfl) k p.1).mono ?_
          rintro _ h6 ⟨rfl, f6⟩
          have hno : lkp ((flushOp st k sp).hart k) p.1 = none := by
            rw [hfl]
            have := lkp_filter (fun q => !(q.1 == sp)) l p.1
            rw [goneK, this]
            simp [hs]
          rw [hno]
          simp (disch := omega) only [Option.isSome_none, i, sh, sh2, shi, dec]
          rw [if_pos hs, Nat.add_zero] at hsn
          exact ⟨nn, by omega, j + 1, by rw [hsn]; simp, by omega, S5.pure f6⟩
        · rw [if_neg hs] at hsn
          have hga := gone_at sp l j p hp hs
          have hgb : ((goneK l sp).map (·.1))[(goneK (l.take j) sp).length]? = some p.1 := by rw [List.getElem?_map, hga]; rfl
          have hlt := (List.getElem?_eq_some_iff.1 hga).1
          have R3 := S5.row (E := keyE) (V := V3) (l := (goneK l sp).map (·.1)) 2 rfl
          have ix3 := R3.ix (k := .i64) (i := (goneK (l.take j) sp).length) (by rw [List.length_map]; exact hlt)
          have ld3 := R3.ld hgb
          have ld1 := R1.ld hp1
          rw [e2] at ix3 ld3 ld1
          rw [hat, load_o] at ld1
          have hne := key_ne p.1 p.1
          rw [if_pos rfl] at hne
          simp (disch := omega) only [L7_15, i, sh, sh2, shi, dec, b_len, hl1, hl3, ix1, hat, hc0, ix3, ld3, ld1, hne]
          exact ⟨nn, by omega, j + 1, by rw [hsn]; simp, by omega, S5⟩
end
end Go.Proofs.Ytgncgokjbakdmaa
