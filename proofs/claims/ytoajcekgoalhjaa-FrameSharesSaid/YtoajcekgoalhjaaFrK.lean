/-
  frame, the law: FrameShares.
-/
import Derived.Test.YtoajcekgoalhjaaFrJ
set_option linter.all false
namespace Go.Proofs.Ytoajcekgoalhjaa
open Go.ChangeShapes Go.WideShapes Go.ChangeAt Go.RowKit Go.Lm
set_option linter.unusedSimpArgs false
set_option linter.unusedVariables false
set_option maxRecDepth 10000
theorem neq_f {t : TypeId} {lit : Bool} {a b : Int} (h : a = b) : binL Try.prog .neq t lit (.int .i64 a) (.int .i64 b) = some (.bool false) := by rw [binL_neq_int, h]; simp
theorem neq_t {t : TypeId} {lit : Bool} {a b : Int} (h : a ≠ b) : binL Try.prog .neq t lit (.int .i64 a) (.int .i64 b) = some (.bool true) := by rw [binL_neq_int]; simp [h]
theorem neq_b (a b : Bool) : binL Try.prog .neq 4 false (.bool a) (.bool b) = some (.bool (a != b)) := by cases a <;> cases b <;> exact nr (by kernel_rfl)
theorem rem_i {t : TypeId} {lit : Bool} {a b : Int} (h : 0 < b) : binL Try.prog .rem t lit (.int .i64 a) (.int .i64 b) = some (.int .i64 (a.tmod b)) := binL_rem_int _ _ _ _ _ (by omega)
structure HSt (n hh : Nat) (st : FSt) (H : List Int) : Prop where
  w : FWf st
  f : st.first = 2
  hr : st.harts = hh
  cl : st.counts.length = n
  u : usedL st.counts = H.length
  nd : H.Nodup
  m : ∀ y, y ∈ H → st.cnt y = 1
section
variable {F : Nat → Prop} {g h h' : LHeap} {x m a k c n hh : Nat} {st : FSt} {S : Nat → Prop} {V U HV : LV} {l l1 l2 H : List Int}
theorem HSt.len (P : HSt n hh st H) : H.length ≤ n := by
  have := usedL_le st.counts
  rw [P.u, P.cl] at this; exact this
theorem HSt.n64 (P : HSt n hh st H) : n ≤ 4096 := by
  have := P.w.bounds.2.2
  rw [P.cl] at this; exact this
theorem HSt.take (P : HSt n hh st H) (hk : k < hh) (hf : H.length < n) : (allocS st k).2.2 = 0 ∧ (2 ≤ (allocS st k).2.1 ∧ (allocS st k).2.1 < n + 2) ∧ (allocS st k).2.1 ∉ H ∧ zeroP (allocS st k).1.bs (allocS st k).2.1 = true ∧ (allocS st k).1.cnt (allocS st k).2.1 ≠ 0 ∧ ∀ addr v, 256 * (allocS st k).2.1 ≤ addr → addr + 4 ≤ 256 * (allocS st k).2.1 + 256 → HSt n hh (wrS (allocS st k).1 addr v) (H ++ [(allocS st k).2.1]) := by
  rcases alloc_said P.w (k := k) (by rw [P.hr]; exact hk) with ⟨_, e, hin, hc, hz, hf1, hh1, hb, hcl, hu, hcn⟩ | ⟨hu, _, _⟩
  · have wf := alloc_wf P.w k
    have hni : (allocS st k).2.1 ∉ H := fun h => by have := P.m _ h; omega
    have hin' := hin
    unfold FSt.inR at hin'
    rw [P.f, P.cl] at hin'
    have hne : (allocS st k).1.cnt (allocS st k).2.1 ≠ 0 := by rw [hcn, if_pos rfl]; decide
    refine ⟨e, ⟨by omega, by omega⟩, hni, ?_, hne, fun addr v h0 h1 => ⟨wr_wf wf v hne h0 h1, hf1.trans P.f, hh1.trans P.hr, hcl.trans P.cl, ?_, ?_, fun y hy => ?_⟩⟩
    · unfold zeroP
      rw [hb, hz, decide_eq_true (P.w.frameIn hin)]
      rw [Bool.true_and, List.all_eq_true]
      intro y hy
      rw [(List.mem_replicate.1 hy).2]; rfl
    · show usedL (allocS st k).1.counts = _
      rw [hu, P.u]; simp
    · rw [List.nodup_append]
      exact ⟨P.nd, by simp, fun p hp q hq e => hni (by rw [List.mem_singleton.1 hq] at e; exact e ▸ hp)⟩
    · show (allocS st k).1.cnt y = 1
      rw [hcn]
      rcases List.mem_append.1 hy with h | h
      · have hne2 : y ≠ (allocS st k).2.1 := fun e => hni (e ▸ h)
        rw [if_neg hne2]; exact P.m y h
      · rw [List.mem_singleton.1 h, if_pos rfl]
  · rw [P.u, P.cl] at hu; omega
theorem HSt.full (P : HSt n hh st H) (hk : k < hh) (hf : ¬ H.length < n) : (allocS st k).2.2 = 2 ∧ (allocS st k).1 = st := by
  rcases alloc_said P.w (k := k) (by rw [P.hr]; exact hk) with ⟨hu, _⟩ | ⟨_, e, e2⟩
  · rw [P.u, P.cl] at hu; omega
  · exact ⟨e, e2⟩
theorem HSt.give (P : HSt n hh st H) (hk : k < hh) {j : Nat} {y : Int} (hj : H[j]? = some y) : (decrS st k y).2 = (true, 0) ∧ HSt n hh (decrS st k y).1 (H.take j ++ H.drop (j + 1)) := by
  have hy := P.m y (List.mem_of_getElem? hj)
  obtain ⟨e, hf, hh1, hcl, hu, hc⟩ := decr_said P.w (k := k) (by rw [P.hr]; exact hk) hy
  have hjl := (List.getElem?_eq_some_iff.1 hj).1
  have hH : H = H.take j ++ y :: H.drop (j + 1) := by
    conv => lhs; rw [← List.take_append_drop j H]
    rw [List.drop_eq_getElem_cons hjl, (List.getElem?_eq_some_iff.1 hj).2]
  have nd := P.nd
  rw [hH, List.nodup_append] at nd
  obtain ⟨n1, n2, n3⟩ := nd
  rw [List.nodup_cons] at n2
  refine ⟨e, decr_wf P.w k y, hf.trans P.f, hh1.trans P.hr, hcl.trans P.cl, ?_, ?_, fun z hz => ?_⟩
  · have := P.u
    rw [List.length_append, List.length_take, List.length_drop]
    omega
  · rw [List.nodup_append]
    exact ⟨n1, n2.2, fun p hp q hq => n3 p hp q (List.mem_cons_of_mem _ hq)⟩
  · rw [hc]
    rcases List.mem_append.1 hz with h | h
    · have hne2 : z ≠ y := fun e => n3 z h y (by simp) e
      rw [if_neg hne2]
      exact P.m z (by rw [hH]; exact List.mem_append_left _ h)
    · have hne2 : z ≠ y := fun e => n2.1 (e ▸ h)
      rw [if_neg hne2]
      exact P.m z (by rw [hH]; exact List.mem_append_right _ (List.mem_cons_of_mem _ h))
end
end Go.Proofs.Ytoajcekgoalhjaa
