/-
  tlb and its reference, plain: Pending, Handle, Over.
-/
import Derived.Test.YtgncgokjbakdmaaTpA
set_option linter.all false
namespace Go.Proofs.Ytgncgokjbakdmaa
open Go.ChangeShapes Go.WideShapes Go.ChangeAt Go.RowKit Go.Lm
set_option linter.unusedSimpArgs false
set_option maxRecDepth 10000
theorem sorted_eq : ∀ {l m : List Int}, l.Nodup → m.Nodup → l.Pairwise (· ≤ ·) → m.Pairwise (· ≤ ·) → (∀ x, x ∈ l ↔ x ∈ m) → l = m
  | [], [], _, _, _, _, _ => rfl
  | [], y :: m, _, _, _, _, h => by have := (h y).2 (List.mem_cons_self ..); cases this
  | x :: l, [], _, _, _, _, h => by have := (h x).1 (List.mem_cons_self ..); cases this
  | x :: l, y :: m, n1, n2, p1, p2, h => by
    rw [List.nodup_cons] at n1 n2
    rw [List.pairwise_cons] at p1 p2
    have hxy : x = y := by
      have h1 := (h x).1 (List.mem_cons_self ..)
      have h2 := (h y).2 (List.mem_cons_self ..)
      rcases List.mem_cons.1 h1 with e | h1
      · exact e
      rcases List.mem_cons.1 h2 with e | h2
      · exact e.symm
      have := p1.1 y h2
      have := p2.1 x h1
      omega
    subst hxy
    congr 1
    refine sorted_eq n1.2 n2.2 p1.2 p2.2 fun z => ⟨fun hz => ?_, fun hz => ?_⟩
    · rcases List.mem_cons.1 ((h z).1 (List.mem_cons_of_mem _ hz)) with rfl | h'
      · exact absurd hz n1.1
      · exact h'
    · rcases List.mem_cons.1 ((h z).2 (List.mem_cons_of_mem _ hz)) with rfl | h'
      · exact absurd hz n2.1
      · exact h'
theorem mem_pendTo {st : RSt} {a : Int} {j : Nat} {id : Int} : id ∈ pendTo st a j ↔ ∃ m p, m < j ∧ id = (m : Int) + 1 ∧ st.all[m]? = some p ∧ a ∈ p.2 := by
  rw [pendTo, List.mem_map]
  constructor
  · rintro ⟨m, hm, rfl⟩
    rw [List.mem_filter, List.mem_range] at hm
    cases hp : st.all[m]? with
    | none => rw [hp] at hm; simp at hm
    | some p => rw [hp] at hm; exact ⟨m, p, hm.1, rfl, hp, by simpa using hm.2⟩
  · rintro ⟨m, p, hm, rfl, hp, ha⟩
    exact ⟨m, List.mem_filter.2 ⟨List.mem_range.2 hm, by rw [hp]; simpa using ha⟩, rfl⟩
theorem pendTo_pw (st : RSt) (a : Int) (j : Nat) : (pendTo st a j).Pairwise (· < ·) := by
  rw [pendTo, List.pairwise_map]
  exact (List.pairwise_lt_range.sublist List.filter_sublist).imp fun {b c} h => by omega
theorem alike_pendB {st : TSt} {rs : RSt} (A : Alike st rs) (a id : Int) : pendB st a id = true ↔ ∃ m p, m < rs.all.length ∧ id = (m : Int) + 1 ∧ rs.all[m]? = some p ∧ a ∈ p.2 := by
  unfold pendB
  rw [A.opn, A.harts, Bool.and_eq_true, decide_eq_true_iff]
  have h8 := A.h8
  constructor
  · rintro ⟨hr, h⟩
    unfold opnOf at h
    by_cases h1 : 1 ≤ id
    · rw [if_pos h1] at h
      cases hp : rs.all[(id - 1).toNat]? with
      | none => rw [hp] at h; simp at h
      | some p =>
        rw [hp] at h
        refine ⟨(id - 1).toNat, p, (List.getElem?_eq_some_iff.1 hp).1, by omega, hp, ?_⟩
        by_cases hn : p.2 = []
        · simp [hn] at h
        · simp only [if_neg hn] at h
          rw [leftB_at _ (by omega)] at h
          have e : ((a.toNat : Nat) : Int) = a := by omega
          rw [e] at h
          simpa using h
    · rw [if_neg h1] at h; simp at h
  · rintro ⟨m, p, hm, rfl, hp, ha⟩
    have hok := (A.ok p (List.mem_of_getElem? hp)).2 a ha
    refine ⟨hok, ?_⟩
    unfold opnOf
    have e1 : ((m : Int) + 1 - 1).toNat = m := by omega
    have hn : ¬ p.2 = [] := fun e => by rw [e] at ha; cases ha
    rw [if_pos (by omega), e1, hp]
    simp only [if_neg hn]
    rw [leftB_at _ (by omega)]
    have e : ((a.toNat : Nat) : Int) = a := by omega
    rw [e]
    simpa using ha
theorem alike_pend {st : TSt} {rs : RSt} (A : Alike st rs) {a : Int} {l : List Int} (h : PendL st a l) : l = pendTo rs a rs.all.length := by
  refine sorted_eq h.1 ((pendTo_pw rs a _).imp fun {b c} h => by omega) h.2.2.1 ((pendTo_pw rs a _).imp fun {b c} h => by omega) fun id => ?_
  rw [h.2.1, alike_pendB A, mem_pendTo]
theorem alike_over {st : TSt} {rs : RSt} (A : Alike st rs) (id : Int) : overB st id = roverB rs id := by
  unfold overB roverB
  rw [A.begun, A.opn]
  by_cases h : 1 ≤ id ∧ id ≤ rs.all.length
  · rw [decide_eq_true h, Bool.true_and, Bool.true_and]
    obtain ⟨p, hp⟩ : ∃ p, rs.all[(id - 1).toNat]? = some p := ⟨rs.all[(id - 1).toNat]'(by omega), List.getElem?_eq_getElem (by omega)⟩
    unfold opnOf
    rw [if_pos h.1, hp]
    by_cases hn : p.2 = [] <;> simp [hn]
  · rw [decide_eq_false h]; rfl
end Go.Proofs.Ytgncgokjbakdmaa
