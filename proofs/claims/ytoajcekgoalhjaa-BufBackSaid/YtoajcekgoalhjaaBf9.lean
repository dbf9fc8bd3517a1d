/-
  buf: Write, Back.
-/
import Derived.Test.YtoajcekgoalhjaaBf8
set_option linter.all false
namespace Go.Proofs.Ytoajcekgoalhjaa
open Go.ChangeShapes Go.WideShapes Go.ChangeAt Go.RowKit Go.Lm
set_option linter.unusedSimpArgs false
set_option maxRecDepth 10000
section
variable {F : Nat → Prop} {g h h' : LHeap} {d c : Nat} {room : Int} {k : CC} {ds : DSt} {ord : List Int} {xs : List BX} {Zs : List Thing} {st : CSt} {S : Nat → Prop}
theorem CWrite_ok (B : (CBox d c S st).ok g) (lt : ∀ a, S a → a < g.next) (n : Int) {U : LV} {b : List Int} (R : Row g U byteE b) (hU : ∀ a, U.obj = some a → ¬ S a) (hbl : b.length ≤ 2 ^ 40) : Ok Try.prog 15 [.ptr c 0, i n, U] g fun v h =>
    (v = i 1 ∧ b.length ≠ 512 ∧ ∃ S', Sep S g h [CBox d c S' st]) ∨
    (v = i 20 ∧ b.length = 512 ∧ ¬ (0 ≤ n ∧ n < st.d.cnt) ∧ ∃ S', Sep S g h [CBox d c S' st]) ∨
    (v = i 150 ∧ b.length = 512 ∧ (0 ≤ n ∧ n < st.d.cnt) ∧ ∃ S', Sep S g h [CBox d c S' st]) ∨
    (v = i 0 ∧ b.length = 512 ∧ (0 ≤ n ∧ n < st.d.cnt) ∧ ∃ st' S', st'.room = st.room ∧ st'.d = st.d ∧ (∀ m, st'.view m = if m = n then b else st.view m) ∧ (∀ m, st'.dty m = if m = n then true else st.dty m) ∧ Sep S g h [CBox d c S' st']) := by
  refine ok15 fun wf _ => ?_
  obtain ⟨k, xs, Sp, hb, nd, w⟩ := CAt.of_box B lt
  have hle := w.le
  have hr2 := w.r2
  have x0 := Sp.cell (a := c) (vs := cells8 d st.room k) 1 rfl
  simp (disch := omega) only [F15, i]
  refine (made_ok x0).mono ?_
  rintro _ g ⟨rfl, rfl⟩
  simp only [i, cells8] at x0
  have box0 : ∀ {h' : LHeap}, Sep S g h' (CTs d c st.room k st.d st.ord xs ++ []) → ∃ S', Sep S g h' [CBox d c S' st] := fun S' => CAt.to_box ⟨k, xs, S', hb, nd, w⟩
  have hl := R.len (P := Try.prog) ty33
  by_cases h512 : b.length = 512
  rotate_left
  · have : ¬ (b.length : Int) = 512 := by omega
    simp (disch := omega) only [sh, sh2, i, shi, dec, b_len, hl]
    exact .inl ⟨trivial, h512, box0 Sp⟩
  have h512' : (b.length : Int) = 512 := by omega
  by_cases h0 : n < 0
  · simp (disch := omega) only [sh, sh2, i, shi, dec, b_len, hl]
    exact .inr (.inl ⟨trivial, h512, by omega, box0 Sp⟩)
  simp (disch := omega) only [sh, sh2, i, shi, dec, b_len, hl, x0]
  refine (count_ok (ds := st.d) (Sd := k.Sd) (Sp.at 0 rfl) (Sp.boxlt (D := DkD d) (S := k.Sd) (x := st.d) 0 rfl)).mono ?_
  rintro _ g ⟨rfl, rfl⟩
  by_cases h1 : n < st.d.cnt
  rotate_left
  · simp (disch := omega) only [sh, sh2, i, shi, dec]
    exact .inr (.inl ⟨trivial, h512, by omega, box0 Sp⟩)
  have hin : 0 ≤ n ∧ n < st.d.cnt := ⟨by omega, h1⟩
  simp (disch := omega) only [sh, sh2, i, shi, dec, x0]
  -- what is left, where there is room
  have go : ∀ {h2 : LHeap} {k1 : CC} {xs1 : List BX} {st1 : CSt}, Sep S g h2 (CTs d c st1.room k1 st1.d st1.ord xs1 ++ []) → (st1.bs = fun n => (bget xs1 n).map fun x => (x.b, x.t)) → (xs1.map BX.n).Nodup → CWf st1 → (n ∈ st1.ord ∨ (st1.ord.length : Int) < st1.room) → Same st st1 → ∀ K : LHeap → Prop, (∀ h, (∃ st' S', st'.room = st.room ∧ st'.d = st.d ∧ (∀ m, st'.view m = if m = n then b else st.view m) ∧ (∀ m, st'.dty m = if m = n then true else st.dty m) ∧ Sep S g h [CBox d c S' st']) → K h) →
      Ok Try.prog 46 [U] h2 fun t51 g_3 => cellO none 2 (g_3.get c) = some (.map k1.bm) ∧ vK (buildL Try.prog 97 [(0, t51), (1, .bool true)]) fun t52 => oK (newL t52 g_3) fun t53 g_4 => cellO none 2 (g_4.get c) = some (.map k1.bm) ∧ gK (mapSetL Try.prog 89 (.map k1.bm) (.int .i64 n) t53 g_4) fun g_5 => Ok Try.prog 45 [.ptr c 0, .int .i64 n] g_5 fun t56 h => K h := by
    intro h2 k1 xs1 st1 S1 hb1 nd1 w1 hl1 sm1 K hK
    have RU : Row h2 U byteE b := R.up wf S1.fr hU
    refine (copy_ok S1 RU hbl).mono ?_
    rintro V h4 ⟨cV, S6, _⟩
    have x6 := S6.cell (a := c) (vs := cells8 d st1.room k1) 1 rfl
    have x6' := (S6.temp (.cells [V, .bool true] .ex)).cell (a := c) (vs := cells8 d st1.room k1) 1 rfl
    obtain ⟨H, nb', em, S7⟩ := lay_blk true n S6
    have hnw := new_agg [V, .bool true] h4 (by simp [cV]; rfl)
    simp only [i, cells8] at x6 x6'
    simp (disch := omega) only [sh, sh2, x6, bl97t V cV, hnw, x6', em, true_and, and_true]
    refine (last_okZ (by have := w1.le; have := w1.r2; omega) S7 n).mono ?_
    rintro _ h5 ⟨rfl, OV', S8⟩
    have hin1 : 0 ≤ n ∧ n < st1.d.cnt := by rw [sm1.d]; exact hin
    have A : CAt S g h5 d c (st1.put n b true) [] := ⟨_, _, S8, bs_set (x := ⟨n, h4.next, V, b, true⟩) hb1, set_nd (x := ⟨n, h4.next, V, b, true⟩) nd1, w1.put hin1 h512 (fun h => by cases h) hl1⟩
    obtain ⟨S', S9⟩ := A.to_box
    exact hK _ ⟨st1.put n b true, S', sm1.room, sm1.d, fun m => by rw [view_put, sm1.view], fun m => by rw [dty_put, sm1.dty], S9⟩
  cases hx : bget xs n with
  | some x =>
    have hbs : st.bs n = some (x.b, x.t) := by rw [hb]; simp only [hx]; rfl
    obtain ⟨l1, _, _, _⟩ := blk_at (CTs_left Sp) hx
    simp (disch := omega) only [sh, sh2, i, l1, x0, and_true]
    exact go Sp hb nd w (.inl ((w.mem n).2 (by rw [hbs]; rfl))) (Same.refl _) _ fun h hx => .inr (.inr (.inr ⟨trivial, h512, hin, hx⟩))
  | none =>
    have l1 := blk_no (CTs_left Sp) hx
    have hbs : st.bs n = none := by rw [hb]; simp only [hx]; rfl
    simp (disch := omega) only [sh, sh2, i, x0, l1]
    refine (room_ok Sp hb nd w).mono ?_
    rintro _ h2 (⟨rfl, A⟩ | ⟨rfl, st1, k1, xs1, S1, hb1, nd1, w1, hl1, sm1, hn1⟩)
    · simp (disch := omega) only [sh, sh2, i]
      exact .inr (.inr (.inl ⟨trivial, h512, hin, A.to_box⟩))
    have x1 := S1.cell (a := c) (vs := cells8 d st1.room k1) 1 rfl
    simp only [i, cells8] at x1
    simp (disch := omega) only [sh, sh2, x1, and_true]
    exact go S1 hb1 nd1 w1 (.inr hl1) sm1 _ fun h hx => .inr (.inr (.inr ⟨trivial, h512, hin, hx⟩))
end
end Go.Proofs.Ytoajcekgoalhjaa
