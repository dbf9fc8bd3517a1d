/-
  tlb and its reference, plain: they stand alike.
-/
import Derived.Test.YtgncgokjbakdmaaTp9
import Derived.Test.YtgncgokjbakdmaaTlB
set_option linter.all false
namespace Go.Proofs.Ytgncgokjbakdmaa
open Go.ChangeShapes Go.WideShapes Go.ChangeAt Go.RowKit Go.Lm
set_option linter.unusedSimpArgs false
set_option maxRecDepth 10000
def opnOf (all : List (Int × List Int)) (id : Int) : Option (Int × List Bool) := if 1 ≤ id then (match all[(id - 1).toNat]? with
  | some p => if p.2 = [] then none else some (p.1, leftB p.2)
  | none => none) else none
def openN (all : List (Int × List Int)) : Nat := (all.filter fun p => !p.2.isEmpty).length
structure Alike (st : TSt) (rs : RSt) : Prop where
  size : st.size = rs.size
  harts : st.harts = rs.harts
  begun : st.begun = rs.all.length
  opn : st.opn = opnOf rs.all
  nopn : st.nopn = openN rs.all
  ok : ∀ p ∈ rs.all, okTs rs.harts.length p.2
  h8 : rs.harts.length ≤ 8
theorem alike_hart {st : TSt} {rs : RSt} (A : Alike st rs) (a : Int) : st.hart a = rs.hart a := by
  unfold TSt.hart RSt.hart; rw [A.harts]
theorem alike_fill {st : TSt} {rs : RSt} (A : Alike st rs) (a : Int) (q : AKey) (e : Int) : Alike (fillOp st a q e) (rfill rs a q e) := by
  have hi : st.inR a ↔ rs.inR a := by unfold TSt.inR RSt.inR; rw [A.harts]
  unfold fillOp rfill
  by_cases h : rs.inR a
  · rw [if_pos h, if_pos (hi.2 h)]
    exact ⟨A.size, by show st.harts.set _ _ = rs.harts.set _ _; rw [A.harts, A.size, alike_hart A], A.begun, A.opn, A.nopn, fun p hp => by simpa using A.ok p hp, by simpa using A.h8⟩
  · rw [if_neg h, if_neg fun hh => h (hi.1 hh)]; exact A
theorem alike_flush {st : TSt} {rs : RSt} (A : Alike st rs) (a sp : Int) : Alike (flushOp st a sp) (rflush rs a sp) := by
  have hi : st.inR a ↔ rs.inR a := by unfold TSt.inR RSt.inR; rw [A.harts]
  unfold flushOp rflush
  by_cases h : rs.inR a
  · rw [if_pos h, if_pos (hi.2 h)]
    exact ⟨A.size, by show st.harts.set _ _ = rs.harts.set _ _; rw [A.harts, alike_hart A], A.begun, A.opn, A.nopn, fun p hp => by simpa using A.ok p hp, by simpa using A.h8⟩
  · rw [if_neg h, if_neg fun hh => h (hi.1 hh)]; exact A
theorem alike_new (a b : Int) (h : 1 ≤ a ∧ a ≤ 8) : Alike (newT a b) (newR a b) :=
  ⟨rfl, rfl, rfl, by funext id; simp [newT, newR, opnOf], rfl, fun p hp => (by cases hp), by simp [newR]; omega⟩
theorem alike_start {st : TSt} {rs : RSt} (A : Alike st rs) (sp : Int) {ts : List Int} (ht : okTs rs.harts.length ts) : Alike (startT st sp ts) (rstart rs sp ts) := by
  refine ⟨A.size, A.harts, ?_, ?_, ?_, fun p hp => ?_, A.h8⟩
  · show st.begun + 1 = _
    rw [A.begun]; simp [rstart]
  · funext id
    show (if ts ≠ [] ∧ id = st.begun + 1 then some (sp, leftB ts) else st.opn id) = opnOf (rs.all ++ [(sp, ts)]) id
    rw [A.opn, A.begun]
    unfold opnOf
    by_cases h1 : 1 ≤ id
    · rw [if_pos h1, if_pos h1]
      rcases Nat.lt_trichotomy (id - 1).toNat rs.all.length with h | h | h
      · rw [List.getElem?_append_left h, if_neg (by omega)]
      · rw [List.getElem?_append_right (by omega), h, Nat.sub_self]
        by_cases hts : ts = []
        · simp [hts]
        · rw [if_pos ⟨hts, by omega⟩]; simp [hts]
      · rw [List.getElem?_append_right (by omega), if_neg (by omega), List.getElem?_eq_none (by omega), List.getElem?_eq_none (by simp; omega)]
    · rw [if_neg h1, if_neg h1, if_neg (by omega)]
  · show (if ts = [] then st.nopn else st.nopn + 1) = openN (rs.all ++ [(sp, ts)])
    rw [A.nopn, openN, openN, List.filter_append, List.length_append, List.filter_cons]
    cases ts <;> simp
  · rcases List.mem_append.1 hp with hp | hp
    · exact A.ok p hp
    · rw [List.mem_singleton.1 hp]; exact ht
end Go.Proofs.Ytgncgokjbakdmaa
