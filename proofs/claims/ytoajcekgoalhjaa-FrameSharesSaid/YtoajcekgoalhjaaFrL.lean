/-
  frame, the law: FrameShares, the walk.
-/
import Derived.Test.YtoajcekgoalhjaaFrK
set_option linter.all false
namespace Go.Proofs.Ytoajcekgoalhjaa
open Go.ChangeShapes Go.WideShapes Go.ChangeAt Go.RowKit Go.Lm
set_option linter.unusedSimpArgs false
set_option linter.unusedVariables false
set_option maxRecDepth 10000
section
variable {F : Nat → Prop} {g h h' : LHeap} {x m a k c n hh : Nat} {st : FSt} {S : Nat → Prop} {V U HV OV : LV} {l l1 l2 H : List Int}
/-- Behind each op. -/
theorem shares_end {x60 x61 : LV} (Sp : Sep noF g h [FBox x m S st, Thing.vec intE HV H]) (P : HSt n hh st H) {N : LV × LV → LHeap → Prop} {K : LV → LHeap → Prop} (hk : k < 9223372036854775807) (hN : N (HV, i ((k + 1 : Nat) : Int)) h) : J4_16 (i n) (i hh) (.ptr m 0) (.ptr x 0) HV x60 x61 (i k) h N K := by
  have hl := (Sp.row (E := intE) (V := HV) (l := H) 1 rfl).len (P := Try.prog) ty50
  have hle := P.len
  have hn64 := P.n64
  simp (disch := omega) only [J4_16]
  refine (usedB (Sp.at 0 rfl) (Sp.boxlt 0 rfl)).mono ?_
  rintro _ h ⟨rfl, rfl⟩
  rw [P.u]
  simp (disch := omega) only [i, sh, sh2, shi, dec, b_len, hl, neq_f]
  refine (freeB (Sp.at 0 rfl) (Sp.boxlt 0 rfl)).mono ?_
  rintro _ h ⟨rfl, rfl⟩
  have i2 := P.w.I2
  rw [P.u, P.cl] at i2
  simp (disch := omega) only [i, sh, sh2, shi, dec, b_len, hl, neq_f, J4_13]
  rw [show ((k : Int) + 1) = ((k + 1 : Nat) : Int) by omega]
  exact hN
theorem vpush {Ts : List Thing} {q : Nat} (Sp : Sep F g h Ts) (hq : Ts[q]? = some (Thing.vec intE V l)) (y : Int) (hb : l.length ≤ 2 ^ 32) :
    ∃ V' h', builtinL Try.prog .append [50, 50] [V, .slice h.next 0 1 (.ex 1)] (h.alloc (.cells [.int .i64 y] .ex)) = some (V', h') ∧ Sep F g h' (Ts.set q (Thing.vec intE V' (l ++ [y]))) := by
  obtain ⟨V', h', e, S', c, _⟩ := Sp.push q hq (bytes := 8) y (cs := [i y]) rfl (by omega)
  exact ⟨V', h', (ap50 rfl _).trans e, S'⟩
theorem drop_one {B : Thing} (Sp : Sep noF g h [B, Thing.vec intE HV H]) (hb : H.length ≤ 4096) {j : Nat} (hj : j < H.length) : ∃ U1 U2 W1 h2 W2 h3,
    cutT Try.prog 50 HV none (some (.int .i64 (j : Int))) none (limL HV h) = some U1 ∧ cutT Try.prog 50 HV (some (.int .i64 ((j + 1 : Nat) : Int))) none none (limL HV h) = some U2 ∧
    builtinL Try.prog .append [50, 50] [.slice h.next 0 0 (.ex 0), U1] (h.alloc (.cells [] .ex)) = some (W1, h2) ∧ builtinL Try.prog .append [50, 50] [W1, U2] h2 = some (W2, h3) ∧ Sep noF g h3 [B, Thing.vec intE W2 (H.take j ++ H.drop (j + 1))] := by
  have R := Sp.row (E := intE) (V := HV) (l := H) 1 rfl
  have G := Sp.grow (E := intE) (V := HV) (l := H) 1 rfl
  have ltV : ∀ b, HV.obj = some b → b < h.next := fun b hb => Sp.lt (T := Thing.vec intE HV H) 1 rfl hb
  obtain ⟨U1, e1, R1, _, ob1, _⟩ := R.cut G.capd (i := 0) (j := j) (by omega) (by omega) none (some j) rfl rfl
  obtain ⟨U2, e2, R2, _, ob2, _⟩ := R.cut G.capd (i := j + 1) (j := H.length) (by omega) (Nat.le_refl _) (some (j + 1 : Nat)) none rfl rfl
  rw [List.take_of_length_le (by rw [List.length_drop]; omega)] at R2
  rw [List.drop_zero, Nat.sub_zero] at R1
  have f1 : Fr noF h (h.alloc (.cells [] .ex)) := Fr.alloc _ _
  have S1 := Sp.vec (E := intE) (l := []) (h' := h.alloc (.cells [] .ex)) (.slice h.next 0 0 (.ex 0)) (Row.of (get_alloc_eq _ _) rfl rfl (Nat.le_refl 0)) ⟨Nat.le_refl _, fun hh => by omega⟩ ⟨_, .ex, get_alloc_eq _ _, by decide⟩ f1 fun b hb => by cases hb; exact ⟨Nat.le_refl _, Nat.lt_succ_self _⟩
  have R1' : Row (h.alloc (.cells [] .ex)) U1 intE (H.take j) := R1.fr fun b hb => f1.eq b (ltV b (ob1 b hb)) id
  obtain ⟨W1, h2, e3, S2, c2, le2, f2, o2⟩ := S1.app (E := intE) (V := .slice h.next 0 0 (.ex 0)) (l := []) 2 rfl (bytes := 8) R1' (by simp; omega)
  have S2 : Sep noF g h2 [B, Thing.vec intE HV H, Thing.vec intE W1 (H.take j)] := S2
  have R2' : Row h2 U2 intE (H.drop (j + 1)) := R2.fr fun b hb => by
    have hl := ltV b (ob2 b hb)
    rw [f2.eq b (Nat.lt_succ_of_lt hl) (fun e => by cases e; omega), f1.eq b hl id]
  obtain ⟨W2, h3, e4, S3, c3, le3, f3, o3⟩ := S2.app (E := intE) (V := W1) (l := H.take j) 2 rfl (bytes := 8) R2' (by rw [List.length_take, List.length_drop]; omega)
  have S3 : Sep noF g h3 [B, Thing.vec intE HV H, Thing.vec intE W2 (H.take j ++ H.drop (j + 1))] := S3
  refine ⟨U1, U2, W1, h2, W2, h3, ((cut_t ty50 sz3 (by decide) _ _).1 _ _).trans e1, ((cut_t ty50 sz3 (by decide) _ _).2.1 _ _).trans e2, (ap50 R1.not_str _).trans e3, (ap50 R2.not_str _).trans e4, S3.sub (.cons_cons _ (.cons _ (.refl _)))⟩
theorem shares_any {ops : List FOp} (R : Row g OV fopE ops) (hl : ops.length * 24 ≤ 140737488351232) (count harts : Int) : Ok Try.prog 4 [i count, i harts, OV] g fun v _ => v = .bool true := by
  refine ok4 fun wf lt => ?_
  have nb := norm_b count (n := 64) (by omega)
  have hb := norm_b harts (n := 8) (by omega)
  have tb := tmod_b (x := count) (n := 64) (by omega)
  have tb2 := tmod_b (x := harts) (n := 8) (by omega)
  obtain ⟨n, hn⟩ : ∃ n : Nat, (count.tmod 64 + 64).tmod 64 + 1 = n := ⟨(norm count 64 + 1).toNat, by unfold norm at *; omega⟩
  obtain ⟨hh, hhe⟩ : ∃ n : Nat, (harts.tmod 8 + 8).tmod 8 + 1 = n := ⟨(norm harts 8 + 1).toNat, by unfold norm at *; omega⟩
  unfold norm at nb hb
  have hn0 : 1 ≤ n ∧ n ≤ 64 := by omega
  have hh0 : 1 ≤ hh ∧ hh ≤ 8 := by omega
  simp (disch := omega) only [F4, J4_0]
  refine awake_ok.mono ?_
  rintro _ h0 ⟨rfl, f0⟩
  simp (disch := omega) only [J4_1, J4_2, i, sh, sh2, shi, dec, rem_i, hn, hhe]
  have l24 : (zerosB (256 * ((n : Int) + 2).toNat)).length = 256 * (n + 2) := by unfold zerosB; rw [List.length_replicate]; omega
  refine (memNew_ok (x := (n : Int) + 2) (by omega) (by omega)).mono ?_
  rintro _ h1 ⟨m, a, rfl, S1⟩
  rw [← List.append_nil (memTs m a _)] at S1
  generalize zerosB (256 * ((n : Int) + 2).toNat) = bs at *
  simp (disch := omega) only [i, sh, sh2, shi, dec, J4_3, J4_4, nil_p ph_tp true]
  refine (frNew_at (n := n) (harts := hh) (first := 2) S1 (by omega) (by omega) (by omega) (by unfold newOk; omega)).mono ?_
  rintro _ h2 ⟨x, S', rfl, S2⟩
  have hlen := R.len (P := Try.prog) ty43
  have P2 : HSt n hh (newS 2 n hh bs) [] := ⟨boxWf (S2.at 0 rfl), rfl, rfl, by simp [newS], used_rep n, List.nodup_nil, fun y hy => by cases hy⟩
  have S2 := S2.nils intE
  simp (disch := omega) only [i, sh, sh2, shi, dec, J4_5, J4_6, J4_7, J4_9, nil_p fp_t true, b_len, hlen]
  refine loop_n (fun nn (s : LV × LV) h => ∃ (k : Nat) (S : Nat → Prop) (st : FSt) (HV : LV) (H : List Int), s = (HV, i (k : Int)) ∧ k + nn = ops.length ∧ Sep noF h0 h [FBox x m S st, Thing.vec intE HV H] ∧ HSt n hh st H) (n := ops.length) ⟨0, S', _, .nils, [], rfl, by omega, S2, P2⟩ ?_
  rintro nn s h ⟨k, S, st, HV, H, rfl, hk, Sk, P⟩
  cases nn with
  | zero =>
    simp (disch := omega) only [L4_10, J4_11, J4_8, i, sh, sh2, shi, dec]
    refine (Right_ok (Sk.at 0 rfl) (Sk.boxlt 0 rfl)).mono ?_
    rintro _ h' ⟨rfl, _⟩
    trivial
  | succ nn =>
    have Sb : Sep noF h h [] := Sep.start noF h
    obtain ⟨o, ho, hd⟩ := drop_at (l := ops) (k := k) (by omega)
    have RO := R.old wf (f0.trans Sk.fr)
    have hix := RO.ix (k := .i64) (i := k) (by omega)
    have hld := RO.ld ho
    have he : fopE.e = 3 := rfl
    rw [he] at hix hld
    obtain ⟨N, n1, n2⟩ := new_fop h o
    obtain ⟨o0, o1, o2⟩ := fop_c o
    have S5 : Sep noF h0 (h.alloc (.cells (fopE.f o) .ex)) [FBox x m S st, Thing.vec intE HV H, Thing.cells h.next (fopE.f o)] := Sk.new (fopE.f o)
    generalize h.alloc (.cells (fopE.f o) .ex) = h5 at S5 n2
    have htm := S5.cell (a := h.next) (vs := fopE.f o) 2 rfl
    have S6 : Sep noF h0 h5 [FBox x m S st, Thing.vec intE HV H] := S5.sub (.cons_cons _ (.cons_cons _ (.cons _ (.refl _))))
    obtain ⟨ok, oh, of⟩ := o
    simp only at o0 o1 o2
    have ob := norm_b oh (n := (hh : Int)) (by omega)
    have otb := tmod_b (x := oh) (n := (hh : Int)) (by omega)
    obtain ⟨q, hq⟩ : ∃ q : Nat, (oh.tmod hh + hh).tmod hh = q := ⟨(norm oh hh).toNat, by unfold norm at ob ⊢; omega⟩
    unfold norm at ob
    have hqh : q < hh := by omega
    have hle := P.len
    have hlenH := (S6.row (E := intE) (V := HV) (l := H) 1 rfl).len (P := Try.prog) ty50
    -- behind the op
    have next : ∀ {h6 : LHeap} {S' : Nat → Prop} {st' : FSt} {HV' : LV} {H' : List Int}, Sep noF h0 h6 [FBox x m S' st', Thing.vec intE HV' H'] → HSt n hh st' H' → ∃ m_1, m_1 < nn + 1 ∧ ∃ (k' : Nat) (S : Nat → Prop) (st : FSt) (HV : LV) (H : List Int), (HV', i ((k + 1 : Nat) : Int)) = (HV, i (k' : Int)) ∧ k' + m_1 = ops.length ∧ Sep noF h0 h6 [FBox x m S st, Thing.vec intE HV H] ∧ HSt n hh st H :=
      fun S' P' => ⟨nn, by omega, k + 1, _, _, _, _, rfl, by omega, S', P'⟩
    simp (disch := omega) only [L4_10, J4_11, J4_12, J4_14, J4_15, i, sh, sh2, shi, dec, hix, hld, n1, n2, htm, o0, o1, o2, rem_i, hq]
    by_cases k0 : ok = 0
    · subst k0
      simp (disch := omega) only [J4_17, i, sh, sh2, shi, dec]
      refine (Alloc_ok (S6.at 0 rfl) (S6.boxlt 0 rfl) (q : Int)).mono ?_
      rintro _ h7 ⟨rfl, A7⟩
      obtain ⟨S7', S7⟩ := S6.call 0 rfl A7
      have S7 : Sep noF h0 h7 [FBox x m S7' (allocS st q).1, Thing.vec intE HV H] := S7
      have hl7 := (S7.row (E := intE) (V := HV) (l := H) 1 rfl).len (P := Try.prog) ty50
      have nb1 : binL Try.prog .neq 4 false (.bool true) (.bool true) = some (.bool false) := neq_b true true
      have nb2 : binL Try.prog .neq 4 false (.bool false) (.bool false) = some (.bool false) := neq_b false false
      by_cases hf : H.length < n
      · obtain ⟨e0, ⟨r0, r1⟩, hni, hz, hc, hP⟩ := P.take hqh hf
        rw [e0]
        generalize (allocS st q).2.1 = y at *
        generalize (allocS st q).1 = st1 at *
        simp (disch := omega) only [J4_18, J4_19, J4_20, J4_22, i, sh, sh2, shi, dec, b_len, hl7, nb1, neq_f]
        refine loop_n (fun n' s h => ∃ j : Nat, s = i (j : Int) ∧ j + n' = H.length ∧ h = h7) (n := H.length) ⟨0, rfl, by omega, rfl⟩ ?_
        rintro n' s h ⟨j, rfl, hj, rfl⟩
        cases n' with
        | succ n' =>
          have hy := List.getElem?_eq_getElem (show j < H.length by omega)
          have hyn : y ≠ H[j] := fun e => hni (e ▸ List.getElem_mem _)
          generalize H[j]'(by omega) = z at hy hyn
          obtain ⟨b1, o1', ix1, ld1⟩ := at_ix (S7.row (E := intE) (V := HV) (l := H) 1 rfl) (by omega) z hy
          simp (disch := omega) only [L4_23, i, sh, sh2, shi, dec, ix1, ld1]
          exact ⟨n', by omega, j + 1, rfl, by omega, trivial⟩
        | zero =>
          obtain rfl : j = H.length := by omega
          simp (disch := omega) only [L4_23, J4_21, i, sh, sh2, shi, dec]
          refine (zero23_ok (S7.at 0 rfl) (S7.boxlt 0 rfl) y).mono ?_
          rintro _ h8 ⟨rfl, f8⟩
          rw [hz]
          have S8 := S7.pure f8
          have hbs := bs50_1 y h8
          simp only [i] at hbs
          obtain ⟨V9, h9, happ, S9⟩ := vpush S8 (q := 1) rfl y (by omega)
          have S9 : Sep noF h0 h9 [FBox x m S7' st1, Thing.vec intE V9 (H ++ [y])] := S9
          simp (disch := omega) only [i, sh, sh2, shi, dec, hbs, happ]
          refine (storeM (S9.at 0 rfl) (S9.boxlt 0 rfl) 1 hc (by omega) (by omega) (by omega)).mono ?_
          rintro _ h10 ⟨rfl, A10⟩
          obtain ⟨S10', S10⟩ := S9.call 0 rfl A10
          exact shares_end S10 (hP _ _ (by omega) (by omega)) (by omega) (next S10 (hP _ _ (by omega) (by omega)))
      · obtain ⟨e0, e1⟩ := P.full hqh hf
        rw [e0]
        rw [e1] at S7
        simp (disch := omega) only [J4_18, J4_19, J4_13, i, sh, sh2, shi, dec, b_len, hl7, nb2, neq_f, neq_t]
        exact next S7 P
    · simp (disch := omega) only [J4_17, i, sh, sh2, shi, dec, htm, o0]
      by_cases k1 : ok = 1
      · subst k1
        by_cases hp : 0 < H.length
        · have jb := norm_b of (n := (H.length : Int)) (by omega)
          have jtb := tmod_b (x := of) (n := (H.length : Int)) (by omega)
          obtain ⟨j, hj⟩ : ∃ j : Nat, (of.tmod H.length + H.length).tmod H.length = j := ⟨(norm of H.length).toNat, by unfold norm at jb ⊢; omega⟩
          unfold norm at jb
          have hjl : j < H.length := by omega
          have hy := List.getElem?_eq_getElem hjl
          generalize H[j] = y at hy
          obtain ⟨b1, o1', ix1, ld1⟩ := at_ix (S6.row (E := intE) (V := HV) (l := H) 1 rfl) hjl y hy
          simp (disch := omega) only [i, sh, sh2, shi, dec, htm, o0, o2, b_len, hlenH, rem_i, hj, ix1, ld1]
          have hy1 := P.m y (List.mem_of_getElem? hy)
          have hin := cnt_pos (st := st) (y := y) (by omega)
          unfold FSt.inR at hin
          rw [P.f, P.cl] at hin
          refine (Decr_ok (S6.at 0 rfl) (S6.boxlt 0 rfl) (q : Int) y (by omega) (by omega)).mono ?_
          rintro _ h7 ⟨rfl, A7⟩
          obtain ⟨S7', S7⟩ := S6.call 0 rfl A7
          have S7 : Sep noF h0 h7 [FBox x m S7' (decrS st q y).1, Thing.vec intE HV H] := S7
          obtain ⟨eg, P7⟩ := P.give hqh hy
          rw [eg]
          obtain ⟨U1, U2, W1, h8, W2, h9, c1, c2, a1, a2, S9⟩ := drop_one S7 (by have := P.n64; omega) hjl
          rw [show ((j + 1 : Nat) : Int) = (j : Int) + 1 by omega] at c2
          have hbs := bs50_0 h7
          simp (disch := omega) only [i, sh, sh2, shi, dec, neq_f, c1, c2, hbs, a1, a2]
          exact ⟨⟨⟨shares_end S9 P7 (by omega) (next S9 P7), trivial⟩, trivial⟩, trivial⟩
        · simp (disch := omega) only [i, sh, sh2, shi, dec, htm, o0, o2, b_len, hlenH]
          exact shares_end S6 P (by omega) (next S6 P)
      · simp (disch := omega) only [i, sh, sh2, shi, dec, htm, o0]
        exact shares_end S6 P (by omega) (next S6 P)
end
end Go.Proofs.Ytoajcekgoalhjaa
