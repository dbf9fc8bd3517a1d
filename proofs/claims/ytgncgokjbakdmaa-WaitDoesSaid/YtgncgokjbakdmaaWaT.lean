/-
  parapetlaw12.WaitDoes: its loops.
-/
import Derived.Test.YtgncgokjbakdmaaWaR
import Derived.Test.YtgncgokjbakdmaaWaH
set_option linter.all false
namespace Go.Proofs.Ytgncgokjbakdmaa
open Go.ChangeShapes Go.WideShapes Go.ChangeAt Go.RowKit Go.Lm
set_option linter.unusedSimpArgs false
set_option linter.unusedVariables false
set_option maxRecDepth 10000
section
variable {g g0 h : LHeap} {q r n : Nat}
def DoI (g h : LHeap) (q r : Nat) : Prop := ∃ S S2 on sl n s, Sep noF g h (both q r S S2 on sl n s) ∧ AQ on sl s
theorem bl75 : buildL Try.prog 75 [] = some (.agg [.nils]) := by kernel_rfl
theorem build56 (t : Int) (c : Chan) : buildL Try.prog 56 [(0, i 4), (1, i t), (3, .agg (chanE.f c))] = some (.agg (opE.f ⟨4, t, .nils, c, (0, 0, 0), 0⟩)) := nr (by kernel_rfl)
theorem build56' : buildL Try.prog 56 [(0, i 4)] = some (.agg (opE.f ⟨4, 0, .nils, (0, 0, 0), (0, 0, 0), 0⟩)) := nr (by kernel_rfl)
set_option maxHeartbeats 4000000 in
theorem waitdoes_any {V : LV} {ops : List OpX} (R : Row g V opE ops) (hl : ops.length < 9223372036854775807) (hT : ∀ o ∈ ops, ∃ l, Row g o.L chanE l ∧ Capd o.L 3 ∧ l.length * 24 ≤ 140737488351232) : Ok Try.prog 10 [V] g fun v _ => v = .bool true := by
  refine ok10 fun wf _ => ?_
  have hLt : ∀ o ∈ ops, ∀ a, o.L.obj = some a → a < g.next := by
    intro o ho a ha
    obtain ⟨k, hk, rfl⟩ := List.getElem_of_mem ho
    obtain ⟨l, RL, _, _⟩ := hT _ ho
    obtain ⟨pa, off, _, hf⟩ := R.fl (List.getElem?_eq_getElem hk)
    have h6 := hf 2 _ rfl
    rw [if_pos RL.cell] at h6
    cases hg : g.get pa with
    | none => rw [hg] at h6; cases h6
    | some ob =>
      rw [hg] at h6
      cases ob with
      | cells vs own => exact wf.cells pa vs own hg _ (List.mem_of_getElem? h6) a ha
      | _ => cases h6
  simp only [F10, J10_0]
  refine new_ok.mono ?_
  rintro _ h1 ⟨q, col, rfl, D, f1, nw⟩
  obtain ⟨S1, Sp1⟩ := Sep.wqnew (Lm.Sep.start noF g) D f1 nw
  simp only [J10_1]
  refine awake_pure.to ?_
  have n1 := (nil_p (P := Try.prog) ty25 true).1
  have hlen := fun g' => R.len (P := Try.prog) ty53 (g' := g')
  have hnw : newL (.agg [.nils]) h1 = some (.ptr h1.next 0, h1.alloc (.cells [.nils] .ex)) := new_agg _ _ (by simp [LV.cell])
  simp (disch := omega) only [i, sh, sh2, n1, J10_2, bl75, hnw, J10_3, b_len, hlen, J10_8]
  have Sp2 := (Sp1.new [.nils]).nils seatE
  have Sp2 : Sep noF g (h1.alloc (.cells [.nils] .ex)) ([Thing.wq q S1 (fun _ => none) (fun _ => []) 0] ++ [Thing.cells h1.next [.nils], Thing.vec seatE .nils []]) := Sp2
  obtain ⟨S2, Sp3⟩ := Sp2.boxed (D := RqD h1.next) (x := []) ⟨.nils, rfl⟩
  generalize h1.next = r at *
  have I0 : DoI g (h1.alloc (.cells [.nils] .ex)) q r := ⟨S1, S2, _, _, _, _, Sp3, AQ.empty⟩
  refine loop_n (fun n (st : LV × LV) h => ∃ (j : Nat) (q : Nat), st = (.ptr q 0, i (j : Int)) ∧ j + n = ops.length ∧ DoI g h q r) (n := ops.length) ⟨0, q, rfl, by omega, I0⟩ ?_
  rintro n st h ⟨j, q, rfl, hj, S, S2, on, sl, cnt, s, Sp, A⟩
  cases n with
  | zero =>
    have B := Sp.at (T := RqBox r S2 s) 1 rfl
    have blt := Sp.boxlt (D := RqD r) (S := S2) (x := s) 1 rfl
    obtain ⟨col, hcol, D⟩ := Sep.wq Sp 0 rfl
    obtain ⟨ks, kd, kl, kn, km⟩ := D.keys
    have hs := A.len km (by omega)
    obtain ⟨_, ⟨W, rfl⟩, Sb⟩ := box_open B blt
    have x := Sb.cell (a := r) (vs := [W]) 0 rfl
    have RW := Sb.row (E := seatE) (V := W) (l := s) 1 rfl
    have ltW : ∀ b, W.obj = some b → b < h.next := fun b hb => Sb.lt (T := Thing.vec seatE W s) 1 rfl (a := b) hb
    have hlW := fun g' => RW.len (P := Try.prog) ty73 (g' := g')
    simp (disch := omega) only [L10_9, J10_4, i, sh, sh2, shi, dec, x, b_len, hlW, J10_6]
    refine loop_n (fun n (st : LV) h' => ∃ (k : Nat), st = i (k : Int) ∧ k + n = s.length ∧ Fr noF h h' ∧ DoI g h' q r) (n := s.length) ⟨0, rfl, by omega, Fr.refl _ _, S, S2, on, sl, cnt, s, Sp, A⟩ ?_
    rintro n st h' ⟨k, rfl, hk, f, S', S2', on', sl', cnt', s', Sp', A'⟩
    cases n with
    | zero =>
      have bd := build56'
      simp only [i] at bd
      simp (disch := omega) only [L10_7, J10_5, i, sh, sh2, shi, dec, bd]
      refine (does_ok wf Sp' A' ⟨4, 0, .nils, (0, 0, 0), (0, 0, 0), 0⟩ (l := []) (Row.nils _ _) trivial (by decide) (fun a ha => by cases ha)).mono ?_
      rintro _ h'' ⟨rfl, _⟩
      rfl
    | succ n =>
      obtain ⟨p, hp, _⟩ := drop_at (l := s) (k := k) (by omega)
      have RWh : Row h' W seatE s := RW.fr fun b hb => f.eq b (ltW b hb) id
      have ix := RWh.ix (k := .i64) (i := k) (by omega)
      have ld := RWh.ld hp
      have e5 : seatE.e = 5 := rfl
      rw [e5] at ix ld
      obtain ⟨N, w1, w2⟩ := new_st5 h' p
      obtain ⟨c0, c1, c2, c3⟩ := seat_c p
      have f0 : (seatE.f p)[0]? = some (.int .i64 p.1) := rfl
      have xc : (h'.alloc (.cells (seatE.f p) .ex)).get h'.next = some (.cells (seatE.f p) .ex) := get_alloc_eq _ _
      have St := Sp'.temp (.cells (seatE.f p) .ex)
      have ft : Fr noF h (h'.alloc (.cells (seatE.f p) .ex)) := f.trans (Fr.alloc _ _)
      have bd := build56 p.1 p.2.1
      simp only [i] at bd c0
      simp (disch := omega) only [L10_7, i, sh, sh2, shi, dec, ix, ld, w1, w2, xc, c0, f0, c1, bd]
      refine (does_ok wf St A' ⟨4, p.1, .nils, p.2.1, (0, 0, 0), 0⟩ (l := []) (Row.nils _ _) trivial (by decide) (fun a ha => by cases ha)).mono ?_
      rintro _ h'' ⟨rfl, f4, S'', S2'', on'', sl'', cnt'', s'', Sp'', A''⟩
      simp (disch := omega) only [i, sh, sh2, shi, dec]
      exact ⟨n, by omega, k + 1, by simp, by omega, ft.trans (f4 rfl), S'', S2'', on'', sl'', cnt'', s'', Sp'', A''⟩
  | succ n =>
    obtain ⟨o, ho, _⟩ := drop_at (l := ops) (k := j) (by omega)
    have hom := List.mem_of_getElem? ho
    obtain ⟨l, RL, cL, hlL⟩ := hT o hom
    have Rh := R.old wf Sp.fr
    have ix := Rh.ix (k := .i64) (i := j) (by omega)
    have ld := Rh.ld ho
    have e10 : opE.e = 10 := rfl
    rw [e10] at ix ld
    obtain ⟨N, w1, w2⟩ := new_st10 h o
    obtain ⟨c0, c1, c2, c3, c4, c5⟩ := op_c o RL.cell
    have f0 : (opE.f o)[0]? = some (.int .i64 o.kind) := rfl
    have S3 := Sp.new (opE.f o)
    generalize hx6 : h.next = x6 at *
    generalize hhc : h.alloc (.cells (opE.f o) .ex) = hc at *
    have S3 : Sep noF g hc [Thing.wq q S on sl cnt, RqBox r S2 s, Thing.cells x6 (opE.f o)] := S3
    have xc := S3.cell (a := x6) (vs := opE.f o) 2 rfl
    have c10 : cellO (some 10) 0 (some (.cells (opE.f o) .ex)) = some (.agg (opE.f o)) := by
      rw [cells_o _ _ _ _ (by rw [opE.len]; decide), List.drop_zero, List.take_of_length_le (by rw [opE.len]; decide)]
    simp (disch := omega) only [L10_9, i, sh, sh2, shi, dec, ix, ld, w1, w2, xc, c0, f0]
    by_cases k5 : o.kind = 5
    · obtain ⟨col, hcol, D⟩ := Sep.wq S3 0 rfl
      simp (disch := omega) only [i, sh, sh2, shi, dec, k5]
      refine (fork_ok D).mono ?_
      rintro _ h4 ⟨q', col', rfl, D', f4, nw'⟩
      obtain ⟨S4, Sp4⟩ := Sep.wqnew S3 D' f4 nw'
      have Sp4 : Sep noF g h4 [Thing.wq q S on sl cnt, RqBox r S2 s, Thing.cells x6 (opE.f o), Thing.wq q' S4 on sl cnt] := Sp4
      have xc4 := Sp4.cell (a := x6) (vs := opE.f o) 2 rfl
      obtain ⟨col4, hcol4, D4⟩ := Sep.wq Sp4 0 rfl
      simp (disch := omega) only [i, sh, sh2, n1, xc4, c3]
      refine (wake_ok D4 o.a 9).mono ?_
      rintro W5 h5 ⟨_, col5, D5, fq5, _⟩
      obtain ⟨S5, Sp5⟩ := Sep.wqs Sp4 0 rfl hcol4 D5 fq5
      have Sp5 : Sep noF g h5 [Thing.wq q S5 _ _ _, RqBox r S2 s, Thing.cells x6 (opE.f o), Thing.wq q' S4 on sl cnt] := Sp5
      have xc5 := Sp5.cell (a := x6) (vs := opE.f o) 2 rfl
      obtain ⟨col5', hcol5, D5'⟩ := Sep.wq Sp5 0 rfl
      simp (disch := omega) only [i, sh, sh2, xc5, c1]
      refine (cancel_ok D5' o.tid).mono ?_
      rintro _ h6 ⟨rfl, col6, D6, fq6⟩
      obtain ⟨S6, Sp6⟩ := Sep.wqs Sp5 0 rfl hcol5 D6 fq6
      have Sp6 : Sep noF g h6 ([Thing.wq q S6 _ _ _, RqBox r S2 s, Thing.cells x6 (opE.f o)] ++ [Thing.wq q' S4 on sl cnt]) := Sp6
      have Sp7 := Sp6.move (i := 0) rfl
      exact ⟨n, by omega, j + 1, q', by simp, by omega, S4, S2, on, sl, cnt, s, Sp7.init (Ts := both q' r S4 S2 on sl cnt s), A⟩
    · simp (disch := omega) only [i, sh, sh2, shi, dec, xc, c10]
      refine (does_ok wf (S3.init (Ts := both q r S S2 on sl cnt s)) A o RL cL hlL (hLt o hom)).mono ?_
      rintro _ h4 ⟨rfl, _, S', S2', on', sl', cnt', s', Sp', A'⟩
      simp (disch := omega) only [i, sh, sh2, shi, dec]
      exact ⟨n, by omega, j + 1, q, by simp, by omega, S', S2', on', sl', cnt', s', Sp', A'⟩
end
end Go.Proofs.Ytgncgokjbakdmaa
