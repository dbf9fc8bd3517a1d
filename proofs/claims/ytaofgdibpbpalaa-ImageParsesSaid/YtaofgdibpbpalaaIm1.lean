/-
  image.reach and parapetref23.marks: what they tell, and which pages they mark.
-/
import Derived.Test.YtaofgdibpbpalaaImP
set_option linter.all false
namespace Go.Proofs.Ytaofgdibpbpalaa
open Go.ChangeShapes Go.WideShapes Go.ChangeAt Go.RowKit Go.Lm
set_option linter.unusedSimpArgs false
def pagesN (n : Int) : Int := (n + 255) / 256
theorem pages_ok {g : LHeap} {n : Int} (h0 : 0 ≤ n) (h : n ≤ 2 ^ 62) : Ok Try.prog 69 [i n] g fun v g' => v = i (pagesN n) ∧ g' = g := by
  refine ok69 fun _ _ => ?_
  have e : (n + 256 - 1).tdiv 256 = pagesN n := by rw [Int.tdiv_eq_ediv_of_nonneg (by omega)]; unfold pagesN; congr 1; omega
  have e2 : IntKind.i64.wrap (pagesN n) = pagesN n := wrap_in (by unfold pagesN; omega) (by unfold pagesN; omega)
  simp (disch := omega) only [F69, i, sh, shi, dec, binL_quo_int, e, e2, and_self]
/-- Pages p .. p + n - 1 are marked; false: one is marked already. -/
def markB : Nat → Nat → List Bool → Bool × List Bool
  | _, 0, bs => (true, bs)
  | p, n + 1, bs => if bs.getD p false = true then (false, bs) else markB (p + 1) n (bs.set p true)
def reachB (f c : Int) (bs : List Bool) : Bool × List Bool := if f < 0 ∨ c < 1 ∨ 128 < c ∨ 128 - c < f then (false, bs) else markB f.toNat c.toNat bs
theorem markB_len : ∀ (n p : Nat) (bs : List Bool), (markB p n bs).2.length = bs.length
  | 0, _, _ => rfl
  | n + 1, p, bs => by
    unfold markB
    split
    · rfl
    · rw [markB_len]; simp
theorem reachB_len (f c : Int) (bs : List Bool) : (reachB f c bs).2.length = bs.length := by
  unfold reachB
  split
  · rfl
  · exact markB_len _ _ _
theorem reach_ok {g : LHeap} {a : Nat} {bs : List Bool} {f c : Int} (hg : g.get a = some (.cells (bs.map .bool) .ex)) (hl : bs.length = 128) :
    Ok Try.prog 68 [.ptr a 0, i f, i c] g fun v g' => v = .bool (reachB f c bs).1 ∧ g' = g.set a (.cells ((reachB f c bs).2.map .bool) .ex) := by
  refine ok68 fun _ _ => ?_
  have no : f < 0 ∨ c < 1 ∨ 128 < c ∨ 128 - c < f → LV.bool false = .bool (reachB f c bs).1 ∧ g = g.set a (.cells ((reachB f c bs).2.map .bool) .ex) := fun h => by
    unfold reachB
    rw [if_pos h]
    exact ⟨rfl, (set_same hg).symm⟩
  by_cases h1 : f < 0
  · simp (disch := omega) only [F68, J68_0, i, sh, shi, dec]
    exact no (.inl h1)
  by_cases h2 : c < 1
  · simp (disch := omega) only [F68, J68_0, i, sh, shi, dec]
    exact no (.inr (.inl h2))
  by_cases h3 : 128 < c
  · simp (disch := omega) only [F68, J68_0, i, sh, shi, dec]
    exact no (.inr (.inr (.inl h3)))
  by_cases h4 : 128 - c < f
  · simp (disch := omega) only [F68, J68_0, i, sh, shi, dec]
    exact no (.inr (.inr (.inr h4)))
  simp (disch := omega) only [F68, J68_0, i, sh, shi, dec, J68_1, J68_3]
  refine loop_n (fun n s h => ∃ (p : Nat) (bs' : List Bool), s = i (p : Int) ∧ (p : Int) + n = f + c ∧ bs'.length = 128 ∧ h = g.set a (.cells (bs'.map .bool) .ex) ∧ reachB f c bs = markB p n bs') (n := c.toNat)
    ⟨f.toNat, bs, by simp only [i]; congr 1; omega, by omega, hl, (set_same hg).symm, by unfold reachB; rw [if_neg (by omega)]⟩ ?_
  rintro n s h ⟨p, bs', rfl, hp, hl', rfl, hm⟩
  cases n with
  | zero =>
    simp (disch := omega) only [L68_4, J68_2, i, sh, shi, dec, hm, markB, and_self]
  | succ n =>
    have hb : (bs'.map LV.bool)[p]? = some (.bool (bs'.getD p false)) := by
      rw [List.getElem?_map, List.getD_eq_getElem?_getD, List.getElem?_eq_getElem (by omega)]; rfl
    cases hd : bs'.getD p false with
    | true =>
      rw [hd] at hb
      simp (disch := omega) only [L68_4, i, sh, sh2, shi, dec, ix_arr', hb, hm, markB, hd, Nat.mul_one, if_true, and_self]
    | false =>
      rw [hd] at hb
      simp (disch := omega) only [L68_4, i, sh, sh2, shs, shi, dec, ix_arr', hb, Nat.mul_one]
      refine ⟨n, by omega, p + 1, bs'.set p true, ?_, by omega, by simpa using hl', ?_, ?_⟩
      · simp
      · rw [set_set, List.map_set]
      · rw [hm]
        simp only [markB, hd]
        rfl
theorem marks_ok {g : LHeap} {a cap : Nat} {bs : List Bool} {f c : Int} (hg : g.get a = some (.cells (bs.map .bool) .ex)) (hl : bs.length = 128) :
    Ok Try.prog 70 [.slice a 0 128 (.ex cap), i f, i c] g fun v g' => v = .bool (reachB f c bs).1 ∧ g' = g.set a (.cells ((reachB f c bs).2.map .bool) .ex) := by
  refine ok70 fun _ _ => ?_
  have no : f < 0 ∨ c < 1 ∨ 128 < c ∨ 128 - c < f → LV.bool false = .bool (reachB f c bs).1 ∧ g = g.set a (.cells ((reachB f c bs).2.map .bool) .ex) := fun h => by
    unfold reachB
    rw [if_pos h]
    exact ⟨rfl, (set_same hg).symm⟩
  by_cases h1 : f < 0
  · simp (disch := omega) only [F70, J70_0, i, sh, shi, dec]
    exact no (.inl h1)
  by_cases h2 : c < 1
  · simp (disch := omega) only [F70, J70_0, i, sh, shi, dec]
    exact no (.inr (.inl h2))
  by_cases h3 : 128 < c
  · simp (disch := omega) only [F70, J70_0, i, sh, shi, dec]
    exact no (.inr (.inr (.inl h3)))
  by_cases h4 : 128 - c < f
  · simp (disch := omega) only [F70, J70_0, i, sh, shi, dec]
    exact no (.inr (.inr (.inr h4)))
  simp (disch := omega) only [F70, J70_0, i, sh, shi, dec, J70_1, J70_3]
  refine loop_n (fun n s h => ∃ (p : Nat) (bs' : List Bool), s = i (p : Int) ∧ (p : Int) + n = f + c ∧ bs'.length = 128 ∧ h = g.set a (.cells (bs'.map .bool) .ex) ∧ reachB f c bs = markB p n bs') (n := c.toNat)
    ⟨f.toNat, bs, by simp only [i]; congr 1; omega, by omega, hl, (set_same hg).symm, by unfold reachB; rw [if_neg (by omega)]⟩ ?_
  rintro n s h ⟨p, bs', rfl, hp, hl', rfl, hm⟩
  cases n with
  | zero =>
    simp (disch := omega) only [L70_4, J70_2, i, sh, shi, dec, hm, markB, and_self]
  | succ n =>
    have hb : (bs'.map LV.bool)[p]? = some (.bool (bs'.getD p false)) := by
      rw [List.getElem?_map, List.getD_eq_getElem?_getD, List.getElem?_eq_getElem (by omega)]; rfl
    cases hd : bs'.getD p false with
    | true =>
      rw [hd] at hb
      simp (disch := omega) only [L70_4, i, sh, sh2, shi, dec, ix_nat, hb, hm, markB, hd, Nat.mul_one, if_true, and_self]
    | false =>
      rw [hd] at hb
      simp (disch := omega) only [L70_4, i, sh, sh2, shs, shi, dec, ix_nat, hb, Nat.mul_one]
      refine ⟨n, by omega, p + 1, bs'.set p true, ?_, by omega, by simpa using hl', ?_, ?_⟩
      · simp
      · rw [set_set, List.map_set]
      · rw [hm]
        simp only [markB, hd]
        rfl
end Go.Proofs.Ytaofgdibpbpalaa
