/-
  frame: All.
-/
import Derived.Test.YtoajcekgoalhjaaFr9
import Derived.Test.YtoajcekgoalhjaaLm7x
set_option linter.all false
namespace Go.Proofs.Ytoajcekgoalhjaa
open Go.ChangeShapes Go.WideShapes Go.ChangeAt Go.RowKit Go.Lm
set_option linter.unusedSimpArgs false
set_option linter.unusedVariables false
set_option maxRecDepth 10000
section
variable {F : Nat → Prop} {g h h' : LHeap} {x m a k c : Nat} {cs : List LV} {CV CC : LV} {counts common bs bs' : List Int} {rs : List FX} {r : FX} {Zs : List Thing} {st : FSt} {S : Nat → Prop} {first : Int} {harts : Nat} {Ls : List LV} {V U : LV} {l l2 : List Int}
theorem All_ok : Ok Try.prog 33 [.ptr x 0] g fun v h => v = .func (.func 65) [] [.ptr g.next 0] ∧ h = g.alloc (.cells [.ptr x 0] .ex) := by
  refine ok33 fun _ _ => ?_
  have hn := new_cell (v := .ptr x 0) g rfl
  simp (disch := omega) only [F33, sh, sh2, hn]
  exact ⟨trivial, trivial⟩
/-- What a range over the frames in use does: I where k have been gone over, Q where it was left. -/
theorem walk_ok {I : Nat → LHeap → Prop} {Q : LHeap → Prop} {y : Nat} (hn : counts.length ≤ 4096) (f0 : 0 ≤ first) (f1 : first ≤ 4096)
    (hI : ∀ k h, I k h → h.get c = some (.cells [.ptr x 0] .ex) ∧ FC h x m first harts CV CC ∧ Row h CV intE counts) (h0 : I 0 g)
    (skip : ∀ k h n, I k h → counts[k]? = some n → ¬ 0 < n → I (k + 1) h)
    (step : ∀ (k : Nat) h n K, I k h → counts[k]? = some n → 0 < n → (∀ h', I (k + 1) h' → K (.bool true) h') → (∀ h', Q h' → K (.bool false) h') → Round Try.prog y [i (first + k), i n] h K) :
    Ok Try.prog 65 [.yield y, .ptr c 0] g fun _ h => I counts.length h ∨ Q h := by
  refine ok65 fun _ _ => ?_
  obtain ⟨hc, C, R⟩ := hI 0 g h0
  simp (disch := omega) only [F65, sh, sh2, hc]
  refine (made_ok C).mono ?_
  rintro _ g ⟨rfl, rfl⟩
  have c3 := C.c3
  have hl := R.len (P := Try.prog) ty50
  simp (disch := omega) only [J65_0, J65_1, i, sh, sh2, shi, dec, hc, c3, b_len, hl]
  refine loop_n (fun n s h => ∃ k : Nat, s = i (k : Int) ∧ k + n = counts.length ∧ I k h) (n := counts.length) ⟨0, rfl, by omega, h0⟩ ?_
  rintro n s h ⟨k, rfl, hk, Ik⟩
  obtain ⟨hc, C, R⟩ := hI k h Ik
  cases n with
  | zero =>
    obtain rfl : k = counts.length := by omega
    simp (disch := omega) only [L65_2, i, sh, sh2, shi, dec]
    exact .inl Ik
  | succ n =>
    have hkl : k < counts.length := by omega
    have hck := List.getElem?_eq_getElem hkl
    obtain ⟨b, off, e1, e2⟩ := at_ix R hkl _ hck
    have c1 := C.c1
    generalize counts[k] = v at *
    by_cases hv : 0 < v
    · simp (disch := omega) only [L65_2, i, sh, sh2, shi, dec, e1, e2, hc, c1, callV_y]
      refine step k h v _ Ik hck hv (fun h' Ik' => ?_) fun h' Qh => ?_
      · simp (disch := omega) only [i, sh, sh2, shi, dec]
        exact ⟨n, by omega, k + 1, rfl, by omega, Ik'⟩
      · simp (disch := omega) only [i, sh, sh2, shi, dec]
        exact .inr Qh
    · simp (disch := omega) only [L65_2, i, sh, sh2, shi, dec, e1, e2, hc, c1]
      exact ⟨n, by omega, k + 1, rfl, by omega, skip k h v Ik hck hv⟩
theorem append_full {X : Type} {E : Enc X} {n bytes off : Nat} {l m : List X} {vs : List LV} {own : Own} (R : Row g (.slice a off n (.ex n)) E l) (hl : l.length = n) (hg : g.get a = some (.cells vs own)) (RU : Row g U E m) (hm : m ≠ []) (hb : (l.length + m.length) * bytes * 2 ≤ 2 ^ 48 ∨ ((l.length + m.length) * 5 + 2048) * bytes ≤ 2 ^ 50) :
    appendL E.e bytes (.slice a off n (.ex n)) U g = some (.slice g.next 0 (n + m.length) (.op E.e), g.alloc (.cells (l.flatMap E.f ++ m.flatMap E.f) .op)) ∧ Vec E g.next (g.alloc (.cells (l.flatMap E.f ++ m.flatMap E.f) .op)) (.slice g.next 0 (n + m.length) (.op E.e)) (l ++ m) ∧ Mine (g.alloc (.cells (l.flatMap E.f ++ m.flatMap E.f) .op)) (.slice g.next 0 (n + m.length) (.op E.e)) := by
  have hm0 : m.length ≠ 0 := fun h => hm (List.length_eq_zero_iff.1 h)
  have hfl : (l ++ m).flatMap E.f = l.flatMap E.f ++ m.flatMap E.f := by simp
  refine ⟨?_, ⟨?_, ⟨rfl, _, get_alloc_eq _ _⟩, fun b hb => ?_⟩, ⟨_, .op, get_alloc_eq _ _, by decide⟩⟩
  · have e1 := RU.src
    have e2 := R.src
    have hs : (LV.slice a off n (.ex n)).isStr = false := rfl
    simp only [appendL, e1, e2, hs, hg]
    rw [if_neg (by decide), if_neg hm0, if_neg (fun h => h hb), if_neg (by omega)]
  · refine Row.of (get_alloc_eq _ _) (by rw [List.length_append, hl]) ?_ ?_
    · rw [List.drop_zero, ← hfl, List.take_of_length_le (by rw [flat_len]; exact Nat.le_refl _)]
    · rw [← hfl, flat_len, Nat.zero_add]; exact Nat.le_refl _
  · cases hb
    exact ⟨Nat.le_refl _, Nat.lt_succ_self _⟩
end
end Go.Proofs.Ytoajcekgoalhjaa
