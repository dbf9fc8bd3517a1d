/-
  parapetlaw07.TlbPlays returns true: the law.
-/
import Derived.Test.YtgncgokjbakdmaaTpE
import Derived.Test.YtgncgokjbakdmaaTlH
set_option linter.all false
namespace Go.Proofs.Ytgncgokjbakdmaa
open Go.ChangeShapes Go.WideShapes Go.ChangeAt Go.RowKit Go.Lm
set_option linter.unusedSimpArgs false
set_option maxRecDepth 10000
section
variable {F : Nat → Prop} {g h h' : LHeap} {t x : Nat} {st : TSt} {rs : RSt} {S R : Nat → Prop}
theorem cell_lt {a j : Nat} {v : LV} (wf : g.Wf) (hc : cellO none j (g.get a) = some v) {b : Nat} (hb : v.obj = some b) : b < g.next := by
  cases hg : g.get a with
  | none => rw [hg] at hc; cases hc
  | some o =>
    rw [hg] at hc
    cases o with
    | cells vs own => exact wf.cells a vs own hg v (List.mem_of_getElem? hc) b hb
    | _ => cases hc
theorem bne_b (b : Bool) : binL Try.prog .neq 4 false (.bool b) (.bool b) = some (.bool false) := by cases b <;> kernel_rfl
set_option maxHeartbeats 2000000 in
theorem plays_any {V : LV} {ops : List OpX} (Ro : Row g V opE ops) (hT : ∀ o ∈ ops, ∃ ts, Row g o.T intE ts ∧ ts.length * 8 ≤ 140737488351232) (hl : ops.length ≤ 1048576) (a b : Int) : Ok Try.prog 8 [i a, i b, V] g fun v _ => v = .bool true := by
  refine ok8 fun wf _ => ?_
  simp (disch := omega) only [F8, J8_0, i]
  refine (New_ok a b).mono ?_
  rintro _ h1 (⟨hn, rfl, f1⟩ | ⟨hy, t, S, rfl, B, f1, nw⟩)
  · simp (disch := omega) only [J8_1, i, sh, sh2, shi, dec]
    refine (RNew_ok a b).mono ?_
    rintro _ h2 (⟨_, rfl, rfl⟩ | ⟨hy, _⟩)
    · simp (disch := omega) only [J8_2, i, sh, sh2]
      refine lives_pure.to ?_
      have n1 := (nil_p (P := Try.prog) ty36 true).2.1
      have n2 := (nil_p (P := Try.prog) ty65 true).2.1
      have n3 := (nil_p (P := Try.prog) ty65 true).2.2
      have e0 := bne_b true
      have hlen := Ro.len (P := Try.prog) ty35
      simp (disch := omega) only [i, sh, sh2, shi, dec, n1, n2, e0, J8_3, J8_5]
      refine loop_n (fun n s h => s = i 0) (n := 1) rfl ?_
      rintro n s h rfl
      have hl2 : lenL Try.prog 35 V h = some (.int .i64 ops.length) := Ro.len (P := Try.prog) ty35 (g' := h)
      cases ops with
      | nil => simp (disch := omega) only [L8_6, J8_4, i, sh, sh2, shi, dec, b_len, hl2, n2, n3, List.length_nil]
      | cons o ops =>
        have : (0 : Int) < ((o :: ops).length : Int) := by simp <;> omega
        simp (disch := omega) only [L8_6, J8_4, i, sh, sh2, shi, dec, b_len, hl2, n2, n3]
    · exact absurd hy hn
  have S1 : Sep noF g h1 [TBox t S (newT a b)] := (Sep.start noF g).add _ f1 B nw
  simp (disch := omega) only [J8_1, i, sh, sh2, shi, dec]
  refine (RNew_ok a b).mono ?_
  rintro _ h2 (⟨hn, _⟩ | ⟨_, x, R, rfl, SR⟩)
  · exact absurd hy hn
  have S2 : Sep noF g h2 [TBox t S (newT a b), RBox x R (newR a b)] := by
    have := S1.pure SR.fr
    refine S1.add (RBox x R (newR a b)) SR.fr (SR.at 0 rfl) fun y hy => ?_
    rcases (SR.lo _ (List.mem_singleton.2 rfl) y hy) with ⟨h | h, h'⟩
    · exact h.elim
    · exact ⟨h, h'⟩
  simp (disch := omega) only [J8_2, i, sh, sh2]
  refine lives_pure.to ?_
  have n1 := (nil_p (P := Try.prog) ty36 true).1
  have n2 := (nil_p (P := Try.prog) ty65 true).1
  have e0 := bne_b false
  simp (disch := omega) only [i, sh, sh2, shi, dec, n1, n2, e0, J8_3, J8_5]
  refine loop_n (fun n s h => ∃ (k : Nat), s = i (k : Int) ∧ k + n = ops.length ∧ Both noF g h t x k) (n := ops.length) ⟨0, rfl, by omega, S, R, _, _, S2, alike_new a b hy.1, by simp [newR]⟩ ?_
  rintro n s h ⟨k, rfl, hk, S, R, st, rs, Sk, A, hle⟩
  have hlen : lenL Try.prog 35 V h = some (.int .i64 ops.length) := Ro.len (P := Try.prog) ty35 (g' := h)
  cases n with
  | zero =>
    simp (disch := omega) only [L8_6, J8_4, i, sh, sh2, shi, dec, b_len, hlen, n2]
    refine (looks_any A Sk).mono ?_
    rintro _ h1 ⟨rfl, f1⟩
    simp (disch := omega) only [i, sh, sh2]
  | succ n =>
    obtain ⟨o, ho, hd⟩ := drop_at (l := ops) (k := k) (by omega)
    obtain ⟨ix, pa, off, hat, l0, l1, l2, l3, l4, l7⟩ := op_at (Ro.old wf Sk.fr) ho
    obtain ⟨ts, RT, hts⟩ := hT o (List.mem_of_getElem? ho)
    have ltT : ∀ b, o.T.obj = some b → b < g.next := fun b hb => by
      obtain ⟨pa, off, _, hf⟩ := Ro.fl ho
      have h6 := hf 6 _ rfl
      rw [if_pos RT.cell] at h6
      exact cell_lt wf h6 hb
    simp (disch := omega) only [L8_6, i, sh, sh2, shi, dec, b_len, hlen, n2, ix, hat, l7]
    refine (step_any wf A Sk o RT ltT hts (by omega)).mono ?_
    rintro _ h3 ⟨rfl, S', R', st', rs', Sx, A', hl'⟩
    simp (disch := omega) only [i, sh, sh2, shi, dec]
    exact ⟨n, by omega, k + 1, by simp, by omega, S', R', st', rs', Sx, A', by omega⟩
end
end Go.Proofs.Ytgncgokjbakdmaa
