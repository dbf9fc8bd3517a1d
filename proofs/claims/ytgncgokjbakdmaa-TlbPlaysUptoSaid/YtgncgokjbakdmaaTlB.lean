/-
  tlb: how the laws call it.
-/
import Derived.Test.YtgncgokjbakdmaaTlA
import Derived.Test.YtgncgokjbakdmaaTlQ
set_option linter.all false
namespace Go.Proofs.Ytgncgokjbakdmaa
open Go.ChangeShapes Go.WideShapes Go.ChangeAt Go.RowKit Go.Lm
set_option linter.unusedSimpArgs false
structure OpX where
  kind : Int
  hart : Int
  key : AKey
  e : Int
  n : Int
  T : LV
def opE : Enc OpX := ⟨fun o => [i o.kind, i o.hart, i o.key.1, i o.key.2, u32V o.e, i o.n, if o.T.cell then o.T else .nils], 7, fun _ => rfl, fun o v h => by
  simp only [List.mem_cons, List.not_mem_nil, or_false] at h
  rcases h with rfl | rfl | rfl | rfl | rfl | rfl | rfl <;> first | rfl | (split; assumption; rfl), by decide⟩
theorem ty35 : Try.prog.underlying 35 = some (.slice 44) := by kernel_rfl
def reachedL : List FuncId := [19, 18, 20, 45, 23, 24, 22, 46, 70, 90, 91, 69, 81, 87, 100, 82, 95, 83, 96, 97, 84, 98, 99, 101, 85, 86, 88, 89, 47, 72, 71, 92, 74, 73, 25, 48, 30, 35, 21, 44, 36, 31]
set_option maxRecDepth 1000000 in
theorem fineLives : reachedL.all (fineF Try.prog) = true := by kernel_rfl
set_option maxRecDepth 1000000 in
theorem lives_computed : (flats [] && (LV.bool true).flat && callB Try.prog reachedL 3000 19 [] (emp 0) fun v _ => v.eqb (.bool true)) = true := by kernel_rfl
theorem lives_pure : Pure Try.prog 19 [] (.bool true) := pure_computed Try.mixed fineLives lives_computed
def TSt.inR (st : TSt) (a : Int) : Prop := 0 ≤ a ∧ a < st.harts.length
instance (st : TSt) (a : Int) : Decidable (st.inR a) := by unfold TSt.inR; infer_instance
def fillOp (st : TSt) (a : Int) (q : AKey) (e : Int) : TSt := if st.inR a then { st with harts := st.harts.set a.toNat (fillK st.size (st.hart a) q e) } else st
def flushOp (st : TSt) (a sp : Int) : TSt := if st.inR a then { st with harts := st.harts.set a.toNat (goneK (st.hart a) sp) } else st
section
variable {F : Nat → Prop} {g h h' : LHeap} {t : Nat} {st : TSt} {S : Nat → Prop}
theorem Fill_ok' (B : (TBox t S st).ok g) (lt : ∀ a, S a → a < g.next) (a : Int) (q : AKey) (e : Int) : Ok Try.prog 20 [.ptr t 0, i a, .agg (keyE.f q), u32V e] g fun v h => v = i (if st.inR a then 0 else 1) ∧ After (TD t) S g h (fillOp st a q e) := by
  refine (Fill_ok B lt a q e).mono ?_
  rintro v h (⟨hn, rfl, A⟩ | ⟨k, l, rfl, hl, rfl, A⟩)
  · have hn : ¬ st.inR a := hn
    unfold fillOp
    rw [if_neg hn, if_neg hn]; exact ⟨rfl, A⟩
  · have hy : st.inR k := ⟨by omega, by have := (List.getElem?_eq_some_iff.1 hl).1; omega⟩
    unfold fillOp
    rw [if_pos hy, if_pos hy, hart_in hl, Int.toNat_natCast]; exact ⟨rfl, A⟩
theorem Flush_ok' (B : (TBox t S st).ok g) (lt : ∀ a, S a → a < g.next) (a sp : Int) : Ok Try.prog 30 [.ptr t 0, i a, i sp] g fun v h => v = i (((st.hart a).length : Int) - (goneK (st.hart a) sp).length) ∧ After (TD t) S g h (flushOp st a sp) := by
  refine (Flush_ok B lt a sp).mono ?_
  rintro v h (⟨hn, rfl, A⟩ | ⟨k, l, rfl, hl, rfl, A⟩)
  · rw [hart_out hn]
    have hn : ¬ st.inR a := hn
    unfold flushOp
    rw [if_neg hn]; exact ⟨rfl, A⟩
  · have hy : st.inR k := ⟨by omega, by have := (List.getElem?_eq_some_iff.1 hl).1; omega⟩
    unfold flushOp
    rw [if_pos hy, hart_in hl, Int.toNat_natCast]; exact ⟨rfl, A⟩
theorem fillOp_len (st : TSt) (a : Int) (q : AKey) (e : Int) : (fillOp st a q e).harts.length = st.harts.length := by unfold fillOp; split <;> simp
theorem flushOp_len (st : TSt) (a sp : Int) : (flushOp st a sp).harts.length = st.harts.length := by unfold flushOp; split <;> simp
theorem hart_set {st : TSt} {a b : Int} {l : List KEnt} (ha : st.inR a) : ({ st with harts := st.harts.set a.toNat l } : TSt).hart b = if b = a then l else st.hart b := by
  unfold TSt.hart
  have h1 := ha.1
  have h2 := ha.2
  by_cases hb : 0 ≤ b
  · rw [if_pos hb, if_pos hb]
    by_cases e : b = a
    · subst e
      rw [if_pos rfl]
      simp only
      rw [List.getElem?_set_self (by omega)]; rfl
    · rw [if_neg e]
      simp only
      rw [List.getElem?_set_ne (by omega)]
  · rw [if_neg hb, if_neg hb, if_neg (by omega)]
theorem box_wf (B : (TBox t S st).ok g) : TWf st := by
  obtain ⟨Ts, ⟨_, _, _, _, _, tw⟩, _⟩ := B
  exact tw
theorem hart_wf (tw : TWf st) (a : Int) : ((st.hart a).map (·.1)).Nodup ∧ (st.hart a).length ≤ 64 := by
  by_cases hr : st.inR a
  · obtain ⟨k, rfl⟩ := Int.eq_ofNat_of_zero_le hr.1
    obtain ⟨l, hl⟩ := kept_of (st := st) (k := k) (by have := hr.2; omega)
    rw [hart_in hl]
    have := tw.nd l (List.mem_of_getElem? hl)
    have := tw.s2
    exact ⟨(tw.nd l (List.mem_of_getElem? hl)).1, by omega⟩
  · rw [hart_out hr]; simp
end
end Go.Proofs.Ytgncgokjbakdmaa
