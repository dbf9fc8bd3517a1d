/-
  parapetlaw23.Same: true of images that are the same.
-/
import Derived.Test.YtaofgdibpbpalaaImB
set_option linter.all false
namespace Go.Proofs.Ytaofgdibpbpalaa
open Go.ChangeShapes Go.WideShapes Go.ChangeAt Go.RowKit Go.Lm
set_option linter.unusedSimpArgs false
theorem u3 : Try.prog.underlying 3 = some (.int .i64) := by kernel_rfl
theorem int_eq (d : Nat) (a b : Int) : eqTy Try.prog (d + 1) 3 (i a) (i b) = some (a == b) := by simp only [eqTy, u3, if_true]
set_option maxRecDepth 1000000 in
theorem reg_step (d : Nat) (a b a' b' : Int) : eqTy Try.prog (d + 4) 94 (.agg [i a, i b]) (.agg [i a', i b']) =
  (match eqTy Try.prog (d + 2) 3 (i a) (i a') with
   | some true => (match eqTy Try.prog (d + 1) 3 (i b) (i b') with
     | some true => some true
     | some false => some false
     | none => none)
   | some false => some false
   | none => none) := by kernel_rfl
theorem reg_ne (a b : Int) : binL Try.prog .neq 94 false (.agg [i a, i b]) (.agg [i a, i b]) = some (.bool false) := by
  have h : (if Try.prog.eqGuardType Try.prog.depth 94 then none else eqTy Try.prog 60 94 (.agg [i a, i b]) (.agg [i a, i b])) = eqTy Try.prog 60 94 (.agg [i a, i b]) (.agg [i a, i b]) := by
    rw [if_neg]; rw [show Try.prog.eqGuardType Try.prog.depth 94 = false from by kernel_rfl]; decide
  simp only [binL, eqL]
  rw [h, reg_step 56, int_eq, int_eq]
  simp
theorem conv_l (V : LV) (h : LHeap) : convLightL Try.prog 23 9 V h = (convL Try.prog 23 9 V h).map (·.1) := nr (by kernel_rfl)
structure SmH (g h : LHeap) (en : Int) (SV ZV SV' ZV' : LV) : Prop where
  fr : Fr noF g h
  a2 : h.get g.next = some (.cells [i en, SV, ZV] .ex)
  a3 : h.get (g.next + 1) = some (.cells [i en, SV', ZV'] .ex)
set_option maxHeartbeats 1000000 in
theorem same_ok {g : LHeap} {en : Int} {SV ZV SV' ZV' : LV} {ss ss' : List (Int × LV)} {segs : List Seg} {zs : List (Int × Int)} (H : Img g SV ZV ss segs zs) (H' : Img g SV' ZV' ss' segs zs) (hm : segs.length < 2 ^ 62 ∧ zs.length < 2 ^ 62) :
    Ok Try.prog 17 [.agg [i en, SV, ZV], .agg [i en, SV', ZV']] g fun v h => v = .bool true ∧ Fr noF g h := by
  refine ok17 fun wf lt => ?_
  have hl := H.lens
  have hl' := H'.lens
  have C0 : SmH g ((g.alloc (.cells [i en, SV, ZV] .ex)).alloc (.cells [i en, SV', ZV'] .ex)) en SV ZV SV' ZV' := ⟨(Fr.alloc g _).alloc' _, by simp, by simp⟩
  have x2 := C0.a2
  have x3 := C0.a3
  simp (disch := omega) only [F17, i, sh, sh2, shs, shc, shi, dec, H.sv.cell, H.zv.cell, H'.sv.cell, H'.zv.cell, J17_0, LHeap.next_alloc, x2, x3, b_len, hl, hl', J17_1, J17_6]
  generalize (g.alloc (.cells [.int .i64 en, SV, ZV] .ex)).alloc (.cells [.int .i64 en, SV', ZV'] .ex) = h0 at C0
  refine loop_n (fun n s h => ∃ k : Nat, s = i (k : Int) ∧ k + n = segs.length ∧ SmH g h en SV ZV SV' ZV') (n := segs.length) ⟨0, rfl, by omega, C0⟩ ?_
  rintro n s h ⟨k, rfl, hk, C⟩
  have x2 := C.a2
  have x3 := C.a3
  cases n with
  | succ n =>
    obtain ⟨t, ht, hd⟩ := drop_at (l := segs) (k := k) (by omega)
    have U := H.up wf C.fr
    have U' := H'.up wf C.fr
    obtain ⟨⟨a0, V⟩, hs, rfl, hV⟩ := U.sb.get ht
    obtain ⟨⟨a1, V'⟩, hs', e1, hV'⟩ := U'.sb.get ht
    simp only at e1
    subst e1
    have hix := H.sv.ix (k := .i64) (i := k) (by rw [H.sb.len]; omega)
    have hix' := H'.sv.ix (k := .i64) (i := k) (by rw [H'.sb.len]; omega)
    obtain ⟨pa, po, hat, hfl⟩ := U.sv.fl hs
    obtain ⟨pa', po', hat', hfl'⟩ := U'.sv.fl hs'
    have hl0 : cellO none po (h.get pa) = some (i t.1) := hfl 0 _ rfl
    have hl0' : cellO none po' (h.get pa') = some (i t.1) := hfl' 0 _ rfl
    have hl1 : cellO none (po + 1) (h.get pa) = some V := by have := hfl 1 _ rfl; simpa [hV.cell] using this
    have hl1' : cellO none (po' + 1) (h.get pa') = some V' := by have := hfl' 1 _ rfl; simpa [hV'.cell] using this
    have e2 : segE.e = 2 := rfl
    rw [e2] at hix hix' hat hat'
    have tV := hV.text (P := Try.prog) ty.2.2 ty9 ty5
    have tV' := hV'.text (P := Try.prog) ty.2.2 ty9 ty5
    have hq : (textOf t.2 == textOf t.2) = true := by simp
    simp (disch := omega) only [L17_7, i, sh, sh2, shs, shc, shi, dec, x2, x3, b_len, hl, hix, hix', hat, hat', hl0, hl0', hl1, hl1', conv_l, tV, tV', Option.map_some, binL_neq_str, hq]
    exact ⟨n, by omega, k + 1, by simp, by omega, C⟩
  | zero =>
    simp (disch := omega) only [L17_7, i, sh, sh2, shs, shc, shi, dec, x2, x3, b_len, hl, J17_2, J17_4]
    refine loop_n (fun n s h => ∃ k : Nat, s = i (k : Int) ∧ k + n = zs.length ∧ SmH g h en SV ZV SV' ZV') (n := zs.length) ⟨0, rfl, by omega, C⟩ ?_
    rintro n s h ⟨k, rfl, hk, C⟩
    have x2 := C.a2
    have x3 := C.a3
    cases n with
    | zero =>
      simp (disch := omega) only [L17_5, J17_3, i, sh, sh2, shs, shc, shi, dec, x2, x3, b_len, hl]
      exact C.fr
    | succ n =>
      obtain ⟨t, ht, hd⟩ := drop_at (l := zs) (k := k) (by omega)
      have U := H.up wf C.fr
      have U' := H'.up wf C.fr
      have hix := H.zv.ix (k := .i64) (i := k) (by omega)
      have hix' := H'.zv.ix (k := .i64) (i := k) (by omega)
      have hld := U.zv.ld ht
      have hld' := U'.zv.ld ht
      have e2 : zE.e = 2 := rfl
      rw [e2] at hix hix' hld hld'
      simp only [zE] at hld hld'
      simp (disch := omega) only [L17_5, i, sh, sh2, shs, shc, shi, dec, x2, x3, b_len, hl, hix, hix', hld, hld', reg_ne]
      exact ⟨n, by omega, k + 1, by simp, by omega, C⟩
end Go.Proofs.Ytaofgdibpbpalaa
