/-
  parapetref07: New.
-/
import Derived.Test.YtgncgokjbakdmaaTp8
set_option linter.all false
namespace Go.Proofs.Ytgncgokjbakdmaa
open Go.ChangeShapes Go.WideShapes Go.ChangeAt Go.RowKit Go.Lm
set_option linter.unusedSimpArgs false
set_option maxRecDepth 10000
theorem mk111 : ∀ (n : Nat), 1 ≤ n → n ≤ 8 → ∀ h : LHeap, makeSliceL Try.prog 111 (.int .i64 n) (.int .i64 n) h = some (.slice h.next 0 n (.ex n), h.alloc (.cells (List.replicate n .nils) .ex))
  | 1, _, _, h => by kernel_rfl
  | 2, _, _, h => by kernel_rfl
  | 3, _, _, h => by kernel_rfl
  | 4, _, _, h => by kernel_rfl
  | 5, _, _, h => by kernel_rfl
  | 6, _, _, h => by kernel_rfl
  | 7, _, _, h => by kernel_rfl
  | 8, _, _, h => by kernel_rfl
  | 0, h, _, _ => absurd h (by decide)
  | n + 9, _, h, _ => absurd h (by omega)
theorem bl114 (b : Int) (a n : Nat) : buildL Try.prog 114 [(0, .int .i64 b), (1, .slice a 0 n (.ex n))] = some (.agg [.int .i64 b, .slice a 0 n (.ex n), .nils]) := nr (by kernel_rfl)
def newR (a b : Int) : RSt := ⟨b, List.replicate a.toNat [], []⟩
section
variable {F : Nat → Prop} {g h h' : LHeap} {x k : Nat} {size : Int} {HV AV : LV} {hs : List RH} {ss : List SX} {Zs : List Thing} {st : RSt} {S : Nat → Prop}
theorem sl_rep (n : Nat) : (List.replicate n (LV.nils)).flatMap slE.f = List.replicate n .nils := by
  induction n with
  | zero => rfl
  | succ n ih => rw [List.replicate_succ, List.flatMap_cons, ih]; rfl
theorem RNew_ok (a b : Int) : Ok Try.prog 32 [i a, i b] g fun v h =>
    (¬ ((1 ≤ a ∧ a ≤ 8) ∧ 1 ≤ b ∧ b ≤ 64) ∧ v = .tuple [.nilp, i 1] ∧ h = g) ∨
    (((1 ≤ a ∧ a ≤ 8) ∧ 1 ≤ b ∧ b ≤ 64) ∧ ∃ x S, v = .tuple [.ptr x 0, i 0] ∧ Sep noF g h [RBox x S (newR a b)]) := by
  refine ok32 fun wf _ => ?_
  by_cases h1 : 1 ≤ a
  rotate_left
  · simp (disch := omega) only [F32, i, sh, sh2, shi, dec]
    exact .inl ⟨by omega, trivial, trivial⟩
  by_cases h2 : a ≤ 8
  rotate_left
  · simp (disch := omega) only [F32, i, sh, sh2, shi, dec]
    exact .inl ⟨by omega, trivial, trivial⟩
  by_cases h3 : 1 ≤ b
  rotate_left
  · simp (disch := omega) only [F32, i, sh, sh2, shi, dec]
    exact .inl ⟨by omega, trivial, trivial⟩
  by_cases h4 : b ≤ 64
  rotate_left
  · simp (disch := omega) only [F32, i, sh, sh2, shi, dec]
    exact .inl ⟨by omega, trivial, trivial⟩
  obtain ⟨n, rfl⟩ := Int.eq_ofNat_of_zero_le (show 0 ≤ a by omega)
  have hmk := mk111 n (by omega) (by omega) g
  have S1 : Sep noF g (g.alloc (.cells (List.replicate n .nils) .ex)) [Thing.vec slE (.slice g.next 0 n (.ex n)) (List.replicate n .nils)] := by
    have := (Sep.start noF g).vec (E := slE) (l := List.replicate n LV.nils) (.slice g.next 0 n (.ex n)) (h' := g.alloc (.cells (List.replicate n .nils) .ex)) ?_ ?_ ?_ (Fr.alloc _ _) ?_
    · exact this
    · refine Row.of (get_alloc_eq _ _) (by simp) ?_ ?_
      · rw [sl_rep, List.drop_zero, List.take_of_length_le (by simp [slE])]
      · simp [slE]
    · exact ⟨Nat.le_refl _, fun hh => by omega⟩
    · exact ⟨_, .ex, get_alloc_eq _ _, by decide⟩
    · intro y hy; cases hy; exact ⟨Nat.le_refl _, Nat.lt_succ_self _⟩
  have S2 := S1.new [i b, .slice g.next 0 n (.ex n), .nils]
  have S3 := (S2.nils shE)
  have S4 := Sep.nilsL ktE (List.replicate n ()) S3
  simp (disch := omega) only [F32, i, sh, sh2, shc, shi, dec, hmk, bl114]
  refine .inr ⟨⟨⟨h1, h2⟩, h3, h4⟩, g.next + 1, ?_⟩
  let hs : List RH := List.replicate n (.nils, [])
  have e1 : hs.map (·.1) = List.replicate n .nils := by simp [hs]
  have e2 : hs.map hT = (List.replicate n ()).map fun _ => Thing.vec ktE .nils [] := by simp [hs, hT]
  simp only [LHeap.next_alloc] at S4
  have S5 := S4.perm (Us := RTs (g.next + 1) b (.slice g.next 0 n (.ex n)) .nils hs []) (by
    rw [RTs, e1, e2, List.map_nil, List.map_nil, List.append_nil]
    refine List.Perm.append_right _ ?_
    exact .swap _ _ _)
  obtain ⟨S', S6⟩ := S5.boxed (Ts := []) (D := RD (g.next + 1)) (x := newR n b) ⟨_, _, hs, [], rfl, by simp [hs, newR], rfl, fun j s hj => (by simp at hj), h3, h4, by simp [newR]; omega, fun l hl => by
    have := (List.mem_replicate.1 hl).2
    subst this
    exact ⟨by simp, by simp [newR]; omega⟩, by simp [newR], fun p hp => by cases hp⟩
  exact ⟨S', rfl, S6⟩
end
end Go.Proofs.Ytgncgokjbakdmaa
