/-
  parapetref23.Parse: its loops.
-/
import Derived.Test.YtaofgdibpbpalaaImS
set_option linter.all false
namespace Go.Proofs.Ytaofgdibpbpalaa
open Go.ChangeShapes Go.WideShapes Go.ChangeAt Go.RowKit Go.Lm
set_option linter.unusedSimpArgs false
/-- The numbers, as they are read. -/
structure Num (h : LHeap) (N : LV) (bs : List Int) : Prop where
  ix : ∀ (j : Nat) (x : Int), x = (j : Int) → j < (words (bs.drop 4)).length → ixAddrL none 1 N (.int .i64 x) = some (N.at 1 j)
  ld : ∀ (j : Nat), j < (words (bs.drop 4)).length → loadV none (N.at 1 j) h = some (i (wd bs j))
theorem num_of {h : LHeap} {N : LV} {bs : List Int} (R : Row h N intE (words (bs.drop 4))) : Num h N bs :=
  ⟨fun j x hx hj => by subst hx; exact R.ix hj, fun j hj => by
    have : (words (bs.drop 4))[j]? = some (wd bs j) := by
      rw [List.getElem?_eq_getElem hj]
      simp [wd, hj]
    exact R.ld1 this rfl rfl⟩
set_option maxRecDepth 4000 in
set_option maxHeartbeats 4000000 in
theorem ref_zeros {g h : LHeap} {V0 N SV : LV} {bs : List Int} {xi k1 : Nat} {ss : List (Int × LV)} (wf : g.Wf) (RV : Row g V0 byteE bs) (hB : Bytes bs) (hl : bs.length ≤ 16384)
    (S : Sep noF g h [.cells g.next Z3, .vec intE N (words (bs.drop 4)), .cells xi [i (wd bs 0), SV, .nils], .vec segE SV ss, Rows ss (sgK bs k1), .vec zE .nils (zeK bs 0)]) (h1 : k1 = (wd bs 1).toNat) (hw1 : wd bs 1 ≤ 16) (hw2 : wd bs 2 ≤ 16)
    (hW : 3 + 2 * wd bs 1 + 2 * wd bs 2 ≤ (words (bs.drop 4)).length) : J15_7 V0 (.ptr g.next 0) N (.ptr xi 0) h (Parsed g bs) := by
  have p1 := (wd_range hB 1).1
  have p2 := (wd_range hB 2).1
  simp only [J15_7, J15_9]
  refine loop_n (fun n s h => ∃ (k : Nat) (ZV : LV), s = i (k : Int) ∧ (k : Int) + n = wd bs 2 ∧ Sep noF g h [.cells g.next Z3, .vec intE N (words (bs.drop 4)), .cells xi [i (wd bs 0), SV, ZV], .vec segE SV ss, Rows ss (sgK bs k1), .vec zE ZV (zeK bs k)]) (n := (wd bs 2).toNat)
    ⟨0, .nils, rfl, by omega, S⟩ ?_
  rintro n s h ⟨k, ZV, rfl, hk, S⟩
  have Nm := num_of (S.row 1 rfl)
  have n2 := Nm.ix 2 2 rfl (by omega)
  have l2 := Nm.ld 2 (by omega)
  cases n with
  | zero =>
    simp (disch := omega) only [L15_10, i, sh, sh2, shi, dec, n2, l2]
    exact ref_end wf RV hB hl S h1 (by omega)
  | succ n =>
    have n1 := Nm.ix 1 1 rfl (by omega)
    have l1 := Nm.ld 1 (by omega)
    have na := Nm.ix (3 + 2 * k1 + 2 * k) (3 + 2 * wd bs 1 + 2 * k) (by omega) (by omega)
    have la := Nm.ld (3 + 2 * k1 + 2 * k) (by omega)
    have nb := Nm.ix (4 + 2 * k1 + 2 * k) (3 + 2 * wd bs 1 + 2 * k + 1) (by omega) (by omega)
    have lb := Nm.ld (4 + 2 * k1 + 2 * k) (by omega)
    have x6 := S.cell 2 rfl
    have x6a := (S.temp (.cells [i (wd bs (3 + 2 * k1 + 2 * k)), i (wd bs (4 + 2 * k1 + 2 * k))] .ex)).cell 2 rfl
    obtain ⟨ZV', h', e, S1, c, _, _⟩ := S.push (bytes := 16) 5 rfl (zeF bs k) (cs := [i (wd bs (3 + 2 * k1 + 2 * k)), i (wd bs (4 + 2 * k1 + 2 * k))]) (by rw [h1]; rfl) (by simp [zeK]; omega)
    have e : appendL 2 16 ZV (.slice h.next 0 1 (.ex 1)) (h.alloc (.cells [i (wd bs (3 + 2 * k1 + 2 * k)), i (wd bs (4 + 2 * k1 + 2 * k))] .ex)) = some (ZV', h') := e
    have x7 := S1.cell 2 rfl
    simp (disch := omega) only [L15_10, i, sh, sh2, shi, dec, n2, l2, n1, l1, na, la, nb, lb, x6, bl94, bs25, x6a, ap25, e, store_o _ _ _ c, x7, shc]
    refine ⟨n, by omega, k + 1, ZV', by simp, by omega, ?_⟩
    rw [zeK_succ]
    exact S1.store 2 rfl [i (wd bs 0), SV, ZV']
end Go.Proofs.Ytaofgdibpbpalaa
