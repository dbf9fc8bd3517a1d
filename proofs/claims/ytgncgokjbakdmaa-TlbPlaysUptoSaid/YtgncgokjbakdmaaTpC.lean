/-
  tlb and its reference, plain: Handle.
-/
import Derived.Test.YtgncgokjbakdmaaTpB
set_option linter.all false
namespace Go.Proofs.Ytgncgokjbakdmaa
open Go.ChangeShapes Go.WideShapes Go.ChangeAt Go.RowKit Go.Lm
set_option linter.unusedSimpArgs false
set_option maxRecDepth 10000
theorem offH_ne (a : Int) (l : List Int) : offH a l = l.filter fun b => b != a := rfl
theorem openN_set : ∀ {all : List (Int × List Int)} {j : Nat} {p q : Int × List Int}, all[j]? = some p → p.2 ≠ [] → openN (all.set j q) = if q.2 = [] then openN all - 1 else openN all
  | [], _, _, _, h, _ => by simp at h
  | x :: all, 0, p, q, h, hp => by
    simp only [List.getElem?_cons_zero, Option.some.injEq] at h
    subst h
    have hx : (!x.2.isEmpty) = true := by simp [hp]
    by_cases hq : q.2 = []
    · simp [openN, List.filter_cons, hq, hp]
    · simp [openN, List.filter_cons, hq, hp]
  | x :: all, j + 1, p, q, h, hp => by
    rw [List.getElem?_cons_succ] at h
    have ih := openN_set (q := q) h hp
    have hpos : 1 ≤ openN all := by
      have : p ∈ all.filter fun p => !p.2.isEmpty := List.mem_filter.2 ⟨List.mem_of_getElem? h, by simp [hp]⟩
      have := List.length_pos_of_mem this
      exact this
    rw [List.set_cons_succ]
    by_cases hx : x.2 = []
    · have e1 : ∀ l, openN (x :: l) = openN l := fun l => by simp [openN, List.filter_cons, hx]
      rw [e1, e1, ih]
    · have e1 : ∀ l, openN (x :: l) = openN l + 1 := fun l => by simp [openN, List.filter_cons, hx]
      rw [e1, e1, ih]
      split <;> omega
theorem alike_step {st : TSt} {rs : RSt} (A : Alike st rs) (a : Int) {j : Nat} {p : Int × List Int} (hp : rs.all[j]? = some p) : Alike (if a ∈ p.2 then handle1 a.toNat st ((j : Int) + 1) else st) (hstep a rs j) := by
  unfold hstep
  rw [hp]
  simp only
  by_cases ha : a ∈ p.2
  rotate_left
  · rw [if_neg ha, if_neg ha]; exact A
  rw [if_pos ha, if_pos ha]
  have hok := A.ok p (List.mem_of_getElem? hp)
  have hra := hok.2 a ha
  have h8 := A.h8
  have hjl := (List.getElem?_eq_some_iff.1 hp).1
  obtain ⟨c, rfl⟩ := Int.eq_ofNat_of_zero_le hra.1
  have hne : p.2 ≠ [] := fun e => by rw [e] at ha; cases ha
  have e1 : ((j : Int) + 1 - 1).toNat = j := by omega
  have ho : st.opn ((j : Int) + 1) = some (p.1, leftB p.2) := by
    rw [A.opn]; unfold opnOf
    rw [if_pos (by omega), e1, hp]
    simp only [if_neg hne]
  have hr : rs.inR c := hra
  have hdel : (leftB p.2).set c false = leftB (offH c p.2) := by rw [offH_ne, leftB_del _ (by omega)]
  have hnone : noneL ((leftB p.2).set c false) = decide (offH c p.2 = []) := by
    rw [hdel]
    refine noneL_left fun b hb => ?_
    have := hok.2 b (List.mem_filter.1 hb).1
    omega
  have hct : ((c : Int)).toNat = c := Int.toNat_natCast c
  unfold handle1 rflush
  rw [ho, if_pos hr, hct]
  simp only
  rw [hnone, hdel]
  refine ⟨A.size, ?_, ?_, ?_, ?_, fun q hq => ?_, by simpa using A.h8⟩
  · show st.harts.set c _ = rs.harts.set c _
    rw [A.harts, alike_hart A]
  · show st.begun = _
    rw [A.begun]; simp
  · funext id
    show (if id = (j : Int) + 1 then (if decide (offH c p.2 = []) = true then none else some (p.1, leftB (offH c p.2))) else st.opn id) = opnOf (rs.all.set j (p.1, offH c p.2)) id
    unfold opnOf
    by_cases hid : id = (j : Int) + 1
    · subst hid
      have h1 : (1 : Int) ≤ (j : Int) + 1 := by omega
      rw [if_pos rfl, if_pos h1, e1, List.getElem?_set_self hjl]
      simp
    · rw [if_neg hid, A.opn]
      unfold opnOf
      by_cases h1 : 1 ≤ id
      · rw [if_pos h1, if_pos h1, List.getElem?_set_ne (by omega)]
      · rw [if_neg h1, if_neg h1]
  · show (if decide (offH c p.2 = []) = true then st.nopn - 1 else st.nopn) = openN (rs.all.set j (p.1, offH c p.2))
    rw [openN_set hp hne, A.nopn]
    simp
  · have hq : q ∈ rs.all.set j (p.1, offH c p.2) := hq
    have hl : (rs.harts.set c (goneK (rs.hart c) p.1)).length = rs.harts.length := List.length_set
    show okTs (rs.harts.set c (goneK (rs.hart c) p.1)).length q.2
    rw [hl]
    rcases List.mem_or_eq_of_mem_set hq with h | rfl
    · exact A.ok q h
    · exact ⟨hok.1.sublist List.filter_sublist, fun b hb => hok.2 b (List.mem_filter.1 hb).1⟩
theorem alike_upto {st : TSt} {rs : RSt} (A : Alike st rs) (a : Int) : ∀ j, j ≤ rs.all.length → Alike ((pendTo rs a j).foldl (handle1 a.toNat) st) (hupto a rs j)
  | 0, _ => by simpa [pendTo, hupto] using A
  | j + 1, h => by
    have ih := alike_upto A a j (by omega)
    obtain ⟨p, hp⟩ : ∃ p, rs.all[j]? = some p := ⟨_, List.getElem?_eq_getElem (by omega)⟩
    have hp' : (hupto a rs j).all[j]? = some p := by rw [hupto_at a rs j j (Nat.le_refl _)]; exact hp
    have := alike_step ih a hp'
    rw [hupto_succ]
    have e : (pendTo rs a (j + 1)) = pendTo rs a j ++ if a ∈ p.2 then [(j : Int) + 1] else [] := pendTo_succ rs a j hp
    rw [e, List.foldl_append]
    by_cases ha : a ∈ p.2
    · rw [if_pos ha] at this ⊢; exact this
    · rw [if_neg ha] at this ⊢; exact this
theorem alike_handle {st : TSt} {rs : RSt} (A : Alike st rs) {a : Int} {l : List Int} (h : PendL st a l) : Alike (l.foldl (handle1 a.toNat) st) (hupto a rs rs.all.length) := by
  rw [alike_pend A h]; exact alike_upto A a _ (Nat.le_refl _)
end Go.Proofs.Ytgncgokjbakdmaa
