/-
  parapetlaw07.TlbOver returns true: the walk.
-/
import Derived.Test.YtgncgokjbakdmaaTlO
set_option linter.all false
namespace Go.Proofs.Ytgncgokjbakdmaa
open Go.ChangeShapes Go.WideShapes Go.ChangeAt Go.RowKit Go.Lm
set_option linter.unusedSimpArgs false
section
variable {F : Nat → Prop} {g h h' : LHeap} {t : Nat} {st : TSt} {S : Nat → Prop}
set_option maxRecDepth 10000 in
theorem bs24_0 (h : LHeap) : buildSliceL Try.prog 24 0 [] h = some (.slice h.next 0 0 (.ex 0), h.alloc (.cells [] .ex)) := nr (by kernel_rfl)
theorem obj_lt {V : LV} {args : List LV} (lt : ∀ v ∈ args, ∀ b ∈ v.objs, b < g.next) (h : V ∈ args) : ∀ a, V.obj = some a → a < g.next := fun a ha => lt V h a (by cases V <;> simp_all [LV.obj, LV.objs])
set_option maxRecDepth 10000 in
set_option maxHeartbeats 2000000 in
/-- The end: no target that handled keeps anything of the space. -/
theorem over_end {W L : LV} {ts left : List Int} {sp : Int} (wf : g.Wf) (RW : Row g W intE ts) (hts : ts.length < 9223372036854775808) (Sp : Sep noF g h [TBox t S st, Thing.vec intE L left]) (hll : left.length < 9223372036854775808) (O : Ov ts left sp st) :
    J4_8 (i sp) W (.ptr t 0) L h fun v _ => v = .bool true := by
  have hlW := RW.len (P := Try.prog) ty24
  simp (disch := omega) only [J4_8, J4_10]
  refine loop_n (fun n s h => ∃ (k : Nat), s = i (k : Int) ∧ k + n = ts.length ∧ Sep noF g h [TBox t S st, Thing.vec intE L left]) (n := ts.length) ⟨0, rfl, by omega, Sp⟩ ?_
  rintro n s h ⟨k, rfl, hk, Sk⟩
  cases n with
  | zero => simp (disch := omega) only [L4_11, J4_9, i, sh, sh2, shi, dec, b_len, hlW]
  | succ n =>
    obtain ⟨a, ha, hd⟩ := drop_at (l := ts) (k := k) (by omega)
    have RWh := RW.old wf Sk.fr
    have ixW := RWh.ix (k := .i64) (i := k) (by omega)
    have ldW := RWh.ld1 ha rfl rfl
    have hlL := (Sk.row (E := intE) (V := L) (l := left) 1 rfl).len (P := Try.prog) ty24
    have e1 : intE.e = 1 := rfl
    rw [e1] at ixW
    simp (disch := omega) only [L4_11, J4_12, J4_14, J4_19, i, sh, sh2, shi, dec, b_len, hlW]
    refine loop_n (fun nn s h2 => ∃ (j : Nat), s = (.bool (decide (a ∈ left.take j)), i (j : Int)) ∧ j + nn = left.length ∧ h2 = h) (n := left.length) ⟨0, by simp, by omega, rfl⟩ ?_
    rintro nn s h2 ⟨j, rfl, hj, rfl⟩
    cases nn with
    | succ nn =>
      obtain ⟨b, hb, _⟩ := drop_at (l := left) (k := j) (by omega)
      have R1 := Sk.row (E := intE) (V := L) (l := left) 1 rfl
      have ix1 := R1.ix (k := .i64) (i := j) (by omega)
      have ld1 := R1.ld1 hb rfl rfl
      rw [e1] at ix1
      have hsn := take_snoc hb
      by_cases hm : a ∈ left.take j
      · rw [decide_eq_true hm]
        simp (disch := omega) only [L4_20, i, sh, sh2, shi, dec, b_len, hlL]
        exact ⟨nn, by omega, j + 1, by rw [hsn]; simp [hm, i], by omega, trivial⟩
      · rw [decide_eq_false hm]
        simp (disch := omega) only [L4_20, i, sh, sh2, shi, dec, b_len, hlL, ix1, ld1, ixW, ldW]
        refine ⟨nn, by omega, j + 1, ?_, by omega, trivial⟩
        rw [hsn]
        by_cases hba : b = a
        · simp [hba, i]
        · have : (b == a) = false := by simp [hba]
          simp [hm, i, this, Ne.symm hba]
    | zero =>
      rw [List.take_of_length_le (by omega)]
      simp (disch := omega) only [L4_20, J4_15, i, sh, sh2, shi, dec, b_len, hlL, ixW, ldW]
      refine (Kept_ok (Sk.at (T := TBox t S st) 0 rfl) (Sk.boxlt (D := TD t) (S := S) (x := st) 0 rfl) a).mono ?_
      rintro V3 h3 ⟨O3, m3, f3⟩
      have S3 := Sk.vec V3 O3.row O3.grow m3 f3 O3.lo
      have tw := box_wf (Sk.at (T := TBox t S st) 0 rfl)
      have hw := hart_wf tw a
      have hkp := O.kept a (List.mem_of_getElem? ha)
      generalize hkl : st.hart a = l at *
      have hl3 := (S3.row (E := keyE) (V := V3) (l := l.map fun p : KEnt => p.1) 2 rfl).len (P := Try.prog) ty50
      rw [List.length_map] at hl3
      simp (disch := omega) only [J4_16, J4_17]
      refine loop_n (fun nn s h => ∃ (j : Nat), s = i (j : Int) ∧ j + nn = l.length ∧ Sep noF g h [TBox t S st, Thing.vec intE L left, Thing.vec keyE V3 (l.map fun p : KEnt => p.1)]) (n := l.length) ⟨0, rfl, by omega, S3⟩ ?_
      rintro nn s h5 ⟨j, rfl, hj, S5⟩
      have fin : ∃ m, m < n + 1 ∧ ∃ k' : Nat, LV.int .i64 ((k : Int) + 1) = i (k' : Int) ∧ k' + m = ts.length ∧ Sep noF g h5 [TBox t S st, Thing.vec intE L left] := ⟨n, by omega, k + 1, by simp, by omega, S5.init (Ts := [_, _])⟩
      cases nn with
      | zero =>
        simp (disch := omega) only [L4_18, J4_13, i, sh, sh2, shi, dec, b_len, hl3]
        exact fin
      | succ nn =>
        by_cases hm : a ∈ left
        · rw [decide_eq_true hm]
          simp (disch := omega) only [L4_18, J4_13, i, sh, sh2, shi, dec, b_len, hl3]
          exact fin
        · rw [decide_eq_false hm]
          obtain ⟨p, hp, _⟩ := drop_at (l := l) (k := j) (by omega)
          have hp1 : (l.map fun p : KEnt => p.1)[j]? = some p.1 := by rw [List.getElem?_map, hp]; rfl
          have R1 := S5.row (E := keyE) (V := V3) (l := l.map fun p : KEnt => p.1) 2 rfl
          have ix1 := R1.ix (k := .i64) (i := j) (by rw [List.length_map]; omega)
          obtain ⟨pa, off, hat, hf⟩ := R1.fl hp1
          have e2 : keyE.e = 2 := rfl
          rw [e2] at ix1 hat
          have hc0 : cellO none off (h5.get pa) = some (i p.1.1) := hf 0 _ rfl
          have hne := hkp hm p (List.mem_of_getElem? hp)
          simp (disch := omega) only [L4_18, i, sh, sh2, shi, dec, b_len, hl3, ix1, hat, hc0]
          exact ⟨nn, by omega, j + 1, by simp, by omega, S5⟩
theorem bneq_self (b : Bool) : binL Try.prog .neq 4 false (.bool b) (.bool b) = some (.bool false) := by cases b <;> kernel_rfl
theorem len0 (l : List Int) : ((l.length : Int) == 0) = decide (l = []) := by
  cases l with
  | nil => rfl
  | cons a l => simp only [List.length_cons, reduceCtorEq, decide_false]; simp; omega
set_option maxRecDepth 10000 in
set_option maxHeartbeats 2000000 in
theorem over_any {V W U : LV} {ops : List OpX} {ts ord : List Int} {sp : Int} (R : Row g V opE ops) (hl : ops.length < 9223372036854775808) (RW : Row g W intE ts) (hts : ts.length * 8 ≤ 140737488351232) (RU : Row g U intE ord) (hord : ord.length < 9223372036854775808) : Ok Try.prog 4 [V, i sp, W, U] g fun v _ => v = .bool true := by
  refine ok4 fun wf lt => ?_
  have ltW := obj_lt lt (V := W) (by simp)
  simp (disch := omega) only [F4, J4_0]
  refine (New_ok 4 8).mono ?_
  rintro _ h1 (⟨hn, _⟩ | ⟨_, t, S, rfl, B, f1, nw⟩)
  · omega
  have S1 : Sep noF g h1 [TBox t S (newT 4 8)] := (Sep.start noF g).add _ f1 B nw
  have hlen := R.len (P := Try.prog) ty35
  simp (disch := omega) only [J4_1, i, sh, sh2, shi, dec, nil_p ty36 true]
  refine lives_pure.to ?_
  simp (disch := omega) only [sh, sh2, J4_2, J4_31]
  refine loop_n (fun n s h => ∃ (k : Nat) (S : Nat → Prop), s = i (k : Int) ∧ k + n = ops.length ∧ Sep noF g h [TBox t S (filled (newT 4 8) (ops.take k))]) (n := ops.length) ⟨0, S, rfl, by omega, S1⟩ ?_
  rintro n s h ⟨k, S, rfl, hk, Sk⟩
  cases n with
  | succ n =>
    obtain ⟨o, ho, hd⟩ := drop_at (l := ops) (k := k) (by omega)
    obtain ⟨ix, a, off, hat, l0, l1, l2, l3, l4, _⟩ := op_at (R.old wf Sk.fr) ho
    simp (disch := omega) only [L4_32, i, sh, sh2, shi, dec, b_len, hlen, ix, hat, l1, l2, l4, shc]
    refine (Fill_ok' (Sk.at 0 rfl) (Sk.boxlt 0 rfl) o.hart o.key o.e).mono ?_
    rintro _ h2 ⟨_, A⟩
    obtain ⟨S', S2⟩ := Sk.call 0 rfl A
    refine ⟨n, by omega, k + 1, S', by simp, by omega, ?_⟩
    rw [take_snoc ho]
    unfold filled
    rw [List.foldl_append]
    exact S2
  | zero =>
    have h4 : (filled (newT 4 8) (ops.take k)).harts.length = 4 := by rw [filled_len]; rfl
    have hop : (filled (newT 4 8) (ops.take k)).opn = fun _ => none := (filled_opn _ _).1
    have hbe : (filled (newT 4 8) (ops.take k)).begun = 0 := (filled_opn _ _).2
    generalize filled (newT 4 8) (ops.take k) = st at Sk h4 hop hbe
    simp (disch := omega) only [L4_32, i, sh, sh2, shi, dec, b_len, hlen, J4_3]
    have RWh := RW.old wf Sk.fr
    have ltWh : ∀ b, W.obj = some b → b < h.next := fun b hb => Nat.lt_of_lt_of_le (ltW b hb) Sk.fr.le
    refine (Start_ok (Sk.at (T := TBox t S st) 0 rfl) (Sk.boxlt (D := TD t) (S := S) (x := st) 0 rfl) sp RWh ltWh (by omega)).mono ?_
    rintro _ h2 (⟨hn, rfl, A⟩ | ⟨_, hb, _⟩ | ⟨okk, _, rfl, A⟩)
    · obtain ⟨S', S2⟩ := Sk.call 0 rfl A
      simp (disch := omega) only [J4_4, i, sh, sh2, shi, dec]
      refine (Pending_ok (S2.at (T := TBox t S' st) 0 rfl) (S2.boxlt (D := TD t) (S := S') (x := st) 0 rfl) 0).mono ?_
      rintro V3 h3 ⟨l, PL, R3, _⟩
      have hl0 : l = [] := by
        cases l with
        | nil => rfl
        | cons x l =>
          have := (PL.2.1 x).1 (by simp)
          unfold pendB at this
          rw [hop] at this
          simp at this
      subst hl0
      have hl3 := R3.len (P := Try.prog) ty24
      simp (disch := omega) only [i, sh, sh2, shi, dec, b_len, hl3, List.length_nil]
    · omega
    · rw [h4] at okk
      obtain ⟨S', S2⟩ := Sk.call 0 rfl A
      have O0 : Ov ts ts sp (startT st sp ts) := by
        refine ⟨h4, by simp [startT, hbe], ?_, fun id hid => ?_, fun a ha => ha, fun a ha hna => absurd ha hna⟩
        · by_cases ht : ts = [] <;> simp [startT, hbe, hop, ht]
        · simp [startT, hbe, hop, hid]
      have e1 : st.begun + 1 = 1 := by omega
      rw [e1]
      have RW2 := RW.old wf S2.fr
      obtain ⟨L0, h3, ea, S3, cL, _, _⟩ := S2.clone' (bytes := 8) RW2 (fun b hb => Nat.lt_of_lt_of_le (ltW b hb) S2.fr.le) (by omega)
      have ea : appendL 1 8 (.slice h2.next 0 0 (.ex 0)) W (h2.alloc (.cells [] .ex)) = some (L0, h3) := ea
      have eap := ap24 (V := .slice h2.next 0 0 (.ex 0)) RW2.not_str (h2.alloc (.cells [] .ex))
      have hlU := RU.len (P := Try.prog) ty24
      simp (disch := omega) only [J4_4, J4_5, J4_6, J4_21, i, sh, sh2, shi, dec, bs24_0, eap, ea]
      refine loop_n (fun n s h => ∃ (k : Nat) (S : Nat → Prop) (L : LV) (left : List Int) (st : TSt), s = (L, i (k : Int)) ∧ k + n = ord.length ∧ left.length ≤ ts.length ∧ Ov ts left sp st ∧ Sep noF g h [TBox t S st, Thing.vec intE L left]) (n := ord.length) ⟨0, S', L0, ts, _, rfl, by omega, Nat.le_refl _, O0, S3⟩ ?_
      clear S3 S2 O0 A Sk
      rintro n s h ⟨k, S, L, left, st, rfl, hk, hle, O, Sk⟩
      have hlL := (Sk.row (E := intE) (V := L) (l := left) 1 rfl).len (P := Try.prog) ty24
      have hov := over1 O
      cases n with
      | zero =>
        simp (disch := omega) only [L4_22, J4_7, i, sh, sh2, shi, dec, b_len, hlU]
        refine (Over_ok (Sk.at (T := TBox t S st) 0 rfl) (Sk.boxlt (D := TD t) (S := S) (x := st) 0 rfl) 1).mono ?_
        rintro _ h6 ⟨rfl, f6⟩
        have S6 := Sk.pure f6
        rw [hov]
        simp (disch := omega) only [i, sh, sh2, shi, b_len, hlL, len0, bneq_self]
        exact over_end wf RW (by omega) S6 (by omega) O
      | succ n =>
        obtain ⟨a, ha, hd⟩ := drop_at (l := ord) (k := k) (by omega)
        simp (disch := omega) only [L4_22, J4_23, i, sh, sh2, shi, dec, b_len, hlU]
        refine (Over_ok (Sk.at (T := TBox t S st) 0 rfl) (Sk.boxlt (D := TD t) (S := S) (x := st) 0 rfl) 1).mono ?_
        rintro _ h6 ⟨rfl, f6⟩
        have S6 := Sk.pure f6
        have RUh := RU.old wf S6.fr
        have ixU := RUh.ix (k := .i64) (i := k) (by omega)
        have ldU := RUh.ld1 ha rfl rfl
        have e1 : intE.e = 1 := rfl
        rw [e1] at ixU
        rw [hov]
        simp (disch := omega) only [i, sh, sh2, shi, dec, b_len, hlL, len0, bneq_self, J4_25, ixU, ldU]
        refine (Handle_ok (S6.at (T := TBox t S st) 0 rfl) (S6.boxlt (D := TD t) (S := S) (x := st) 0 rfl) a).mono ?_
        rintro _ h7 ⟨l, PL, rfl, A⟩
        obtain ⟨S', S7⟩ := S6.call 0 rfl A
        have O7 := O.handle okk PL
        have S7 := S7.nils intE
        simp (disch := omega) only [J4_26, J4_27, J4_29]
        refine loop_n (fun nn s h => ∃ (j : Nat) (N : LV), s = (N, i (j : Int)) ∧ j + nn = left.length ∧ Sep noF g h [TBox t S' (l.foldl (handle1 a.toNat) st), Thing.vec intE L left, Thing.vec intE N ((left.take j).filter fun b => b != a)]) (n := left.length) ⟨0, .nils, rfl, by omega, S7⟩ ?_
        rintro nn s h8 ⟨j, N, rfl, hj, S8⟩
        cases nn with
        | zero =>
          rw [List.take_of_length_le (by omega)] at S8
          simp (disch := omega) only [L4_30, J4_28, J4_24, i, sh, sh2, shi, dec, b_len, hlL]
          have hfl : (left.filter fun b => b != a).length ≤ left.length := List.length_filter_le _ _
          refine ⟨n, by omega, k + 1, S', N, _, _, by simp, by omega, by omega, O7, S8.sub ?_⟩
          exact List.Sublist.cons₂ _ (List.sublist_cons_self _ _)
        | succ nn =>
          obtain ⟨b, hb, _⟩ := drop_at (l := left) (k := j) (by omega)
          have R1 := S8.row (E := intE) (V := L) (l := left) 1 rfl
          have ix1 := R1.ix (k := .i64) (i := j) (by omega)
          have ld1 := R1.ld1 hb rfl rfl
          have RU8 := RU.old wf S8.fr
          have ldU8 := RU8.ld1 ha rfl rfl
          rw [e1] at ix1
          have hfs := filter_snoc hb a
          have hfl : ((left.take j).filter fun b => b != a).length ≤ j := Nat.le_trans (List.length_filter_le _ _) (by rw [List.length_take]; omega)
          by_cases hba : b = a
          · rw [if_pos hba, List.append_nil] at hfs
            simp (disch := omega) only [L4_30, i, sh, sh2, shi, dec, b_len, hlL, ix1, ld1, ixU, ldU8]
            exact ⟨nn, by omega, j + 1, N, by simp, by omega, by rw [hfs]; exact S8⟩
          · rw [if_neg hba] at hfs
            obtain ⟨N', h9, ea, S9, cN, _, _⟩ := S8.push (E := intE) (V := N) (bytes := 8) 2 rfl b (cs := [i b]) rfl (by omega)
            have ea : appendL 1 8 N (.slice h8.next 0 1 (.ex 1)) (h8.alloc (.cells [i b] .ex)) = some (N', h9) := ea
            have eap := ap24 (V := N) (U := .slice h8.next 0 1 (.ex 1)) rfl (h8.alloc (.cells [i b] .ex))
            have hbs := bs24_1 h8 b
            simp (disch := omega) only [L4_30, i, sh, sh2, shi, dec, b_len, hlL, ix1, ld1, ixU, ldU8, hbs, eap, ea]
            exact ⟨nn, by omega, j + 1, N', by simp, by omega, by rw [hfs]; exact S9⟩
end
end Go.Proofs.Ytgncgokjbakdmaa
