/-
  parapetlaw07.TlbOver returns true: the law.
-/
import Derived.Test.YtgncgokjbakdmaaTlF
set_option linter.all false
namespace Go.Proofs.Ytgncgokjbakdmaa
open Go.ChangeShapes Go.WideShapes Go.ChangeAt Go.RowKit Go.Lm
set_option linter.unusedSimpArgs false
section
variable {F : Nat → Prop} {g h h' : LHeap} {t : Nat} {st : TSt} {S : Nat → Prop} {ts left : List Int} {sp : Int}
structure Ov (ts left : List Int) (sp : Int) (st : TSt) : Prop where
  len : st.harts.length = 4
  begun : st.begun = 1
  o1 : st.opn 1 = if left = [] then none else some (sp, leftB left)
  oo : ∀ id, id ≠ 1 → st.opn id = none
  sub : ∀ a ∈ left, a ∈ ts
  kept : ∀ a ∈ ts, a ∉ left → ∀ p ∈ st.hart a, p.1.1 ≠ sp
theorem leftB_del (l : List Int) {j : Nat} (hj : j < 8) : leftB (l.filter fun b => b != (j : Int)) = (leftB l).set j false := by
  apply List.ext_getElem?
  intro k
  by_cases hk : k < 8
  · rw [leftB_at _ hk, List.getElem?_set]
    by_cases e : j = k
    · subst e; simp [leftB_len, hj]
    · rw [if_neg e, leftB_at _ hk]
      have : (k : Int) ≠ j := by omega
      simp [this]
  · rw [List.getElem?_eq_none (by rw [leftB_len]; omega), List.getElem?_eq_none (by rw [List.length_set, leftB_len]; omega)]
theorem noneL_left (h : ∀ a ∈ left, 0 ≤ a ∧ a < 8) : noneL (leftB left) = decide (left = []) := by
  cases left with
  | nil => rfl
  | cons a l =>
    have := h a (by simp)
    have hj : (leftB (a :: l))[a.toNat]? = some true := by
      rw [leftB_at _ (by omega)]
      have : ((a.toNat : Nat) : Int) = a := by omega
      simp [this]
    have hn : noneL (leftB (a :: l)) = false := by
      cases hn : noneL (leftB (a :: l)) with
      | false => rfl
      | true =>
        have := List.all_eq_true.1 hn true (List.mem_of_getElem? hj)
        simp at this
    rw [hn]; simp
theorem only1 {l : List Int} (hn : l.Nodup) (h : ∀ x ∈ l, x = 1) : l = [] ∨ l = [1] := by
  cases l with
  | nil => exact .inl rfl
  | cons a l =>
    have ha := h a (by simp)
    subst ha
    cases l with
    | nil => exact .inr rfl
    | cons b l =>
      have hb := h b (by simp)
      subst hb
      simp at hn
theorem pend1 (O : Ov ts left sp st) (okk : okTs 4 ts) (a id : Int) : pendB st a id = true ↔ id = 1 ∧ a ∈ left := by
  unfold pendB
  have h4 := O.len
  by_cases hid : id = 1
  · subst hid
    rw [O.o1]
    by_cases hl : left = []
    · subst hl; simp
    · rw [if_neg hl]
      simp only [Bool.and_eq_true, decide_eq_true_eq, true_and]
      constructor
      · rintro ⟨hr, hb⟩
        rw [leftB_at _ (by omega)] at hb
        have e : ((a.toNat : Nat) : Int) = a := by omega
        rw [e] at hb
        simpa using hb
      · intro ha
        have := okk.2 a (O.sub a ha)
        refine ⟨by omega, ?_⟩
        rw [leftB_at _ (by omega)]
        have e : ((a.toNat : Nat) : Int) = a := by omega
        rw [e]
        simp [ha]
  · rw [O.oo id hid]
    simp [hid]
theorem Ov.handle (O : Ov ts left sp st) (okk : okTs 4 ts) {a : Int} {l : List Int} (PL : PendL st a l) : Ov ts (left.filter fun b => b != a) sp (l.foldl (handle1 a.toNat) st) := by
  have hm : ∀ x, x ∈ l ↔ x = 1 ∧ a ∈ left := fun x => (PL.2.1 x).trans (pend1 O okk a x)
  by_cases ha : a ∈ left
  · have hr := okk.2 a (O.sub a ha)
    obtain ⟨c, rfl⟩ := Int.eq_ofNat_of_zero_le hr.1
    have hl : l = [1] := by
      rcases only1 PL.1 fun x hx => ((hm x).1 hx).1 with rfl | rfl
      · exact absurd ((hm 1).2 ⟨rfl, ha⟩) (by simp)
      · rfl
    have hne : left ≠ [] := fun e => by rw [e] at ha; cases ha
    have ho := O.o1
    rw [if_neg hne] at ho
    have h4 := O.len
    have hin : st.inR (c : Int) := ⟨hr.1, by rw [h4]; exact hr.2⟩
    have hld := leftB_del left (j := c) (by omega)
    have hnl := noneL_left (left := left.filter fun b => b != (c : Int)) fun b hb => by
      have := okk.2 b (O.sub b (List.mem_filter.1 hb).1); omega
    rw [hld] at hnl
    have e1 : l.foldl (handle1 ((c : Int)).toNat) st = handle1 c st 1 := by rw [hl]; rfl
    rw [e1]
    simp only [handle1, ho]
    refine ⟨by simpa using h4, O.begun, ?_, fun id hid => by simp only [if_neg hid]; exact O.oo id hid, fun b hb => O.sub b (List.mem_filter.1 hb).1, fun b hb hbl p hp => ?_⟩
    · simp only [if_true, hnl, hld]
      by_cases he : left.filter (fun b => b != (c : Int)) = [] <;> simp [he]
    · have hh := hart_set (b := b) (l := goneK (st.hart c) sp) hin
      rw [Int.toNat_natCast] at hh
      have hp : p ∈ ({ st with harts := st.harts.set c (goneK (st.hart c) sp) } : TSt).hart b := hp
      rw [hh] at hp
      by_cases hbc : b = c
      · rw [if_pos hbc] at hp
        have := (List.mem_filter.1 hp).2
        simpa using this
      · rw [if_neg hbc] at hp
        exact O.kept b hb (fun hbb => hbl (List.mem_filter.2 ⟨hbb, by simpa using hbc⟩)) p hp
  · have hl : l = [] := by
      cases l with
      | nil => rfl
      | cons x l => exact absurd ((hm x).1 (by simp)).2 ha
    subst hl
    have : left.filter (fun b => b != a) = left := List.filter_eq_self.2 fun b hb => by
      have : b ≠ a := fun e => ha (e ▸ hb)
      simpa using this
    rw [this]
    exact O
theorem over1 (O : Ov ts left sp st) : overB st 1 = decide (left = []) := by
  unfold overB
  rw [O.begun, O.o1]
  by_cases h : left = [] <;> simp [h]
theorem filled_opn (st : TSt) (ops : List OpX) : (filled st ops).opn = st.opn ∧ (filled st ops).begun = st.begun := by
  unfold filled
  induction ops generalizing st with
  | nil => exact ⟨rfl, rfl⟩
  | cons o ops ih =>
    rw [List.foldl_cons]
    have := ih (fillOp st o.hart o.key o.e)
    rw [this.1, this.2]
    unfold fillOp
    split <;> exact ⟨rfl, rfl⟩
theorem filter_snoc {l : List Int} {k : Nat} {x : Int} (h : l[k]? = some x) (a : Int) : (l.take (k + 1)).filter (fun b => b != a) = (l.take k).filter (fun b => b != a) ++ if x = a then [] else [x] := by
  rw [take_snoc h, List.filter_append]
  by_cases hx : x = a <;> simp [hx]
theorem ifeq_dec (a b : Bool) : binL Try.prog .neq 4 false (.bool a) (.bool b) = some (.bool (a != b)) := by cases a <;> cases b <;> kernel_rfl
end
end Go.Proofs.Ytgncgokjbakdmaa
