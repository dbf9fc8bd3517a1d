/-
  space, the law: who holds the lock.
-/
import Derived.Test.YtfbagndfifibiaaSxE
import Derived.Test.YtfbagndfifibiaaLm6x
import Derived.SizedLaws
set_option linter.all false
namespace Go.Proofs.Ytfbagndfifibiaa
open Go.ChangeShapes Go.WideShapes Go.ChangeAt Go.RowKit Go.Lm
set_option linter.unusedSimpArgs false
set_option linter.unusedVariables false
set_option maxRecDepth 10000
section
variable {F : Nat → Prop} {g h h' : LHeap} {x m a t w s tb mc : Nat} {q : SpS} {last root : Int} {Ts Zs : List Thing} {bs : List Int} {fs : FSt} {ts : TSt} {S S2 : Nat → Prop}
theorem rem3 (k : Nat) (hk : k < 2 ^ 60) : binL Try.prog .rem 3 true (.int .i64 (k : Int)) (.int .i64 3) = some (.int .i64 ((k % 3 : Nat) : Int)) := by
  have e : binL Try.prog .rem 3 true (.int .i64 (k : Int)) (.int .i64 3) = some (.int .i64 ((k : Int).tmod 3)) := nr (by kernel_rfl)
  rw [e, Int.tmod_eq_emod_of_nonneg (by omega)]
  congr 2
theorem neb (a b : Bool) : binL Try.prog .neq 4 false (.bool a) (.bool b) = some (.bool (a != b)) := nr (by cases a <;> cases b <;> kernel_rfl)
theorem ptS_t : Try.prog.underlying 26 = some (.pointer 66) := ps_t
theorem locks_any {V : LV} {l : List Int} (R : Row g V intE l) (hl : l.length < 2 ^ 60) : Ok Try.prog 3 [V] g fun v _ => v = .bool true := by
  refine ok3 fun wf _ => ?_
  have pm := (nil_p (P := Try.prog) pmc_t true).1
  have psn := (nil_p (P := Try.prog) ps_t true).1
  simp only [F3, J3_0]
  refine (build_ok (n := 8) (by omega) (by omega)).mono ?_
  rintro _ h1 ⟨x, m, t, w, mc, S1, S2, rfl, Sp1⟩
  simp (disch := omega) only [J3_1, i, sh, sh2, shc, shi, dec, pm]
  refine lives_ok.mono ?_
  rintro _ h2 ⟨rfl, f2⟩
  have Sp2 := Sp1.pure f2
  have xm : h2.get mc = some (.cells (mcC m x t w) .ex) := Sp2.cell 3 rfl
  have c3 := mcc m x t w
  simp (disch := omega) only [J3_2, i, sh, sh2, shc, shi, dec, xm, c3]
  refine (first_ok (n := 8) (by omega) (by omega) Sp2).mono ?_
  rintro _ h3 ⟨S3, tb, s, rfl, Sp3⟩
  simp (disch := omega) only [J3_3, i, sh, sh2, shc, shi, dec, psn, J3_4, J3_5, J3_7]
  refine loop_n (fun n r h => ∃ (k : Nat) (q : SpS), r = (i q.held, i (k : Int)) ∧ k + n = l.length ∧ q.has.length = 256 ∧ Sep noF g h (SpL x m t w s tb S3 S2 (fs1 8) (newT 3 4) 1 q [Thing.cells mc (mcC m x t w)])) (n := l.length) ⟨0, newQ 1 (root0 8), rfl, by omega, rfl, Sp3⟩ ?_
  rintro n r h ⟨k, q, rfl, hk, h256, Sp⟩
  have xs : h.get s = some (.cells (spC w tb q) .ex) := Sp.cell 4 rfl
  have Rh := R.old wf Sp.fr
  have hln := Rh.len (P := Try.prog) ty50
  cases n with
  | zero =>
    simp (disch := omega) only [L3_8, J3_6, i, sh, sh2, shc, shi, dec, b_len, hln]
    refine (Locked_ok xs h256).mono ?_
    rintro _ h4 ⟨rfl, rfl⟩
    have e : (q.held == q.held) = true := by simp
    simp (disch := omega) only [i, sh, sh2, shc, shi, dec, binL_eql_int, e]
  | succ n =>
    obtain ⟨z, hz, hd⟩ := drop_at (l := l) (k := k) (by omega)
    have hix := Rh.ix (k := .i64) (i := k) (by omega)
    have hld := Rh.ld1 hz rfl rfl
    have e1 : intE.e = 1 := rfl
    rw [e1] at hix
    by_cases hz1 : z < 1
    · simp (disch := omega) only [L3_8, J3_9, J3_11, J3_10, i, sh, sh2, shc, shi, dec, b_len, hln, hix, hld]
      exact ⟨n, by omega, k + 1, q, rfl, by omega, h256, Sp⟩
    have r3 := rem3 k (by omega)
    simp (disch := omega) only [L3_8, J3_9, J3_11, J3_12, i, sh, sh2, shc, shi, dec, b_len, hln, hix, hld, r3]
    by_cases h2 : k % 3 = 2
    · have e2 : (((k % 3 : Nat) : Int) == 2) = true := by rw [h2]; rfl
      simp (disch := omega) only [i, sh, sh2, shc, shi, dec, binL_eql_int, e2]
      refine (Unlock_ok xs h256 z).mono ?_
      rintro _ h4 (⟨hne, rfl, rfl⟩ | ⟨h0, hez, rfl, T⟩)
      · have e3 : (q.held == z) = false := by
          rcases hne with h | h
          · rw [h]; simp; omega
          · simpa using h
        simp (disch := omega) only [i, sh, sh2, shc, shi, dec, binL_eql_int, e3, neb, bne_self_eq_false, J3_10]
        exact ⟨n, by omega, k + 1, q, rfl, by omega, h256, Sp⟩
      · have e3 : (q.held == z) = true := by simpa using hez
        simp (disch := omega) only [i, sh, sh2, shc, shi, dec, binL_eql_int, e3, neb, bne_self_eq_false, J3_10]
        exact ⟨n, by omega, k + 1, { q with held := 0 }, rfl, by omega, h256, to_put Sp 4 rfl T⟩
    · have e2 : (((k % 3 : Nat) : Int) == 2) = false := by
        rw [beq_eq_false_iff_ne]; omega
      simp (disch := omega) only [i, sh, sh2, shc, shi, dec, binL_eql_int, e2, J3_13]
      refine (Lock_ok xs h256 z).mono ?_
      rintro _ h4 (⟨hno, _⟩ | ⟨_, h0, hne, rfl, rfl⟩ | ⟨_, ho, rfl, T⟩)
      · omega
      · have e3 : (q.held == z) = false := by simpa using hne
        have e4 : (q.held == 0) = false := by simpa using h0
        have e5 : (!(q.held == q.held)) = false := by simp
        simp (disch := omega) only [i, sh, sh2, shc, shi, dec, binL_eql_int, e3, e4, neb, bne_self_eq_false, J3_14, J3_15]
        refine (Locked_ok xs h256).mono ?_
        rintro _ h5 ⟨rfl, rfl⟩
        simp (disch := omega) only [i, sh, sh2, shc, shi, dec, binL_neq_int, e5, J3_10]
        exact ⟨n, by omega, k + 1, q, rfl, by omega, h256, Sp⟩
      · have Sp4 := to_put Sp 4 rfl T
        have Sp4 : Sep noF g h4 (SpL x m t w s tb S3 S2 (fs1 8) (newT 3 4) 1 { q with held := z } [Thing.cells mc (mcC m x t w)]) := Sp4
        have xs4 : h4.get s = some (.cells (spC w tb { q with held := z }) .ex) := Sp4.cell 4 rfl
        have e5 : (!(z == z)) = false := by simp
        by_cases h0 : q.held = 0
        · have e4 : (q.held == 0) = true := by simpa using h0
          simp (disch := omega) only [i, sh, sh2, shc, shi, dec, binL_eql_int, e4, neb, bne_self_eq_false, J3_14, J3_15]
          refine (Locked_ok xs4 h256).mono ?_
          rintro _ h5 ⟨rfl, rfl⟩
          simp (disch := omega) only [i, sh, sh2, shc, shi, dec, binL_neq_int, e5, J3_10]
          exact ⟨n, by omega, k + 1, { q with held := z }, rfl, by omega, h256, Sp4⟩
        · have hz2 := ho.resolve_left h0
          have e3 : (q.held == z) = true := by simpa using hz2
          have e4 : (q.held == 0) = false := by simpa using h0
          have e6 : (!(z == q.held)) = false := by simp [hz2]
          simp (disch := omega) only [i, sh, sh2, shc, shi, dec, binL_eql_int, e3, e4, neb, bne_self_eq_false, J3_14, J3_15]
          refine (Locked_ok xs4 h256).mono ?_
          rintro _ h5 ⟨rfl, rfl⟩
          simp (disch := omega) only [i, sh, sh2, shc, shi, dec, binL_neq_int, e6, J3_10]
          exact ⟨n, by omega, k + 1, { q with held := z }, by rw [hz2]; rfl, by omega, h256, Sp4⟩
end
end Go.Proofs.Ytfbagndfifibiaa

namespace Go.Proofs.Ytfbagndfifibiaa
open Go.ChangeShapes Go.WideShapes Go.ChangeAt Go.RowKit Go.Lm
set_option linter.unusedSimpArgs false
set_option maxRecDepth 100000
theorem bo3 : Try.prog.bytesOf 3 = 8 := by kernel_rfl
theorem body3 (g : LHeap) (xs : List LV) (h : ShpArgs Try.prog g 6 [22] xs) : Ok Try.prog 3 xs g fun v _ => v = .bool true := by
  obtain ⟨V, ys, rfl, hV, h⟩ := shp_slice ty50 h
  obtain ⟨l, R, _, _, _, hl⟩ := shp_row (E := intE) (Q := fun _ : Int => True) (fun ys hy => by
    obtain ⟨x, rfl, _, _⟩ := shp_ints u3 ys hy
    exact ⟨x, rfl, trivial⟩) hV
  obtain rfl := shp_nil h
  rw [bo3] at hl
  have hl : l.length * 8 ≤ 140737488351232 := hl
  exact locks_any R (by omega)

set_option maxRecDepth 100000 in
theorem lifted (os : Os) (started : os.Started) (H : Type) (enc : TypeId × Value → H) :
    ReturnsInHanded {} Try.checked os 3 .any (Rows.spaceLocksSpec.pre6 enc Try.prog Try.f3 Rows.spaceLocksRow.domain false) (Rows.spaceLocksSpec.post enc Try.prog Try.f3 false true false false) := by
  refine returnsInHanded_of_change_sized (C := Try.checked) Try.own started (by kernel_rfl) Try.func3
    (ChangeSpec.witness6 (enc := enc) (C := Try.checked) false ⟨#[], #[.slice none 0 0], []⟩ 8 (by kernel_rfl) (by kernel_rfl) (by kernel_rfl) (by kernel_rfl)) ?_
  intro W base args ds gs before hval0 hW hcnd hz0 _
  have hz : (DataW.weightsEach Try.prog (Try.f3.params.toList ++ []) (ds ++ gs)).all (· ≤ reachBytes) = true := hz0
  have hval : ∀ (j : Nat) t v, Try.f3.params[j]? = some t → args[j]? = some v → Value.okWide Try.prog W .any base t v := hval0
  have hW' := hW
  obtain ⟨p, q, hA0, hV, rfl, hfz, hnd⟩ := hW
  have hA : DataW.TrodAll enc Try.prog W 0 (fun _ => true) true Try.f3.params.toList args.toList ds p := hA0
  rw [Try.params3] at hA hval hz
  obtain ⟨v0, d0, rfl, rfl, _, _⟩ := trodAll_one hA
  obtain ⟨rfl, rfl⟩ := trodVars_none hV
  refine (law_calls (P := Try.prog) (n := 6) (ts := [22]) (by kernel_rfl) hA hz (fun j t v ht hv => hval j t v (by simpa using ht) hv) (fun g xs _ hs => body3 g xs hs)).mono fun e W' ⟨he, hb⟩ => ?_
  subst he
  exact ⟨_, rfl, post_true (P := Try.prog) (t := 4) Try.laidOut (by rw [Try.params3]; intro t ht; simp at ht; subst ht; exact ⟨by kernel_rfl, by rw [Try.types_size]; decide⟩) rfl hW' (by kernel_rfl) (by kernel_rfl) rfl hb⟩

theorem holds : Rows.SpaceLocksSaid :=
  OpenClaim.holds_of_wide 3 Try.f3 rfl rfl rfl rfl rfl rfl rfl ⟨rfl, rfl, rfl, rfl, rfl⟩ rfl rfl rfl rfl rfl (by kernel_rfl) Try.func3 (by kernel_rfl)
    (of_decide_eq_true (by kernel_rfl)) (by unfold Func.isWrapper; first | (rw [if_pos (by decide +kernel)]; kernel_rfl) | (rw [if_neg (by decide +kernel)]; exact ⟨rfl, rfl⟩))
    (fun os started H enc _ => lifted os started H enc)

#print axioms holds
end Go.Proofs.Ytfbagndfifibiaa
