/-
  frame: Right.
-/
import Derived.Test.YtoajcekgoalhjaaFrD
set_option linter.all false
namespace Go.Proofs.Ytoajcekgoalhjaa
open Go.ChangeShapes Go.WideShapes Go.ChangeAt Go.RowKit Go.Lm
set_option linter.unusedSimpArgs false
set_option linter.unusedVariables false
set_option maxRecDepth 10000
section
variable {F : Nat → Prop} {g h h' : LHeap} {x m a k c : Nat} {cs : List LV} {CV CC : LV} {counts common bs bs' : List Int} {rs : List FX} {r : FX} {Zs : List Thing} {st : FSt} {S : Nat → Prop} {first : Int} {harts : Nat} {Ls : List LV} {V U : LV} {l l2 : List Int}
theorem usedM_skip {k : Nat} {n : Int} (hk : counts[k]? = some n) (hn : ¬ 0 < n) (q : Nat) : usedM counts (k + 1) q = usedM counts k q := by
  unfold usedM
  by_cases e : q = k
  · subst e
    rw [hk, if_neg (by simp; omega), if_neg (by omega)]
  · have : q < k + 1 ↔ q < k := by omega
    simp only [this]
theorem usedM_step {k : Nat} {n : Int} (hk : counts[k]? = some n) (hn : 0 < n) (q : Nat) : usedM counts (k + 1) q = if q = k then usedM counts k k + 1 else usedM counts k q := by
  unfold usedM
  by_cases e : q = k
  · subst e
    rw [if_pos rfl, hk, if_pos ⟨by omega, by simpa using hn⟩, if_neg (by omega)]; rfl
  · have : q < k + 1 ↔ q < k := by omega
    simp only [this, if_neg e]
theorem Right_ok (B : (FBox x m S st).ok g) (lt : ∀ b, S b → b < g.next) : Ok Try.prog 28 [.ptr x 0] g fun v h => v = .bool true ∧ After (FD x m) S g h st := by
  obtain ⟨a, CV, CC, rs, Sp, hl, w⟩ := fr_open B lt
  have h8 := fr8 hl w
  have bd := w.bounds
  have hT := frT_len (x := x) (m := m) (a := a) (first := st.first) (harts := st.harts) (CV := CV) (counts := st.counts) (CC := CC) (common := st.common) (bs := st.bs) h8
  rw [List.append_nil] at Sp
  refine ok28 fun _ _ => ?_
  have hn := new_cell (v := .ptr x 0) g rfl
  have S1 := Sp.new [.ptr x 0]
  generalize e1 : g.alloc (.cells [.ptr x 0] .ex) = h1 at *
  have C1 := fr_fc S1 h8
  have x1 := S1.cell (13 + 0) (zat 13 hT _ 0)
  simp (disch := omega) only [F28, J28_0, i, sh, sh2, hn, x1]
  refine (made_ok C1).mono ?_
  rintro _ h1 ⟨rfl, rfl⟩
  have c3 := C1.c3
  have hln : lenL Try.prog 50 CV h1 = some (.int .i64 (st.counts.length : Int)) := (fr_cv S1).len (P := Try.prog) ty50 h1
  have hmk := mk50 (n := st.counts.length) (by omega) h1
  simp only [i] at hmk
  have S2 := Sep.zeros S1 st.counts.length
  generalize e2 : h1.alloc (.cells ((List.replicate st.counts.length (0 : Int)).flatMap intE.f) .ex) = h2 at *
  generalize ePV : LV.slice h1.next 0 st.counts.length (.ex st.counts.length) = PV at *
  have cPV : PV.cell = true := by rw [← ePV]; rfl
  have hn2 := new_cell (v := .nils) h2 rfl
  have S3 := S2.new [.nils]
  rw [List.append_assoc, List.append_assoc] at S3
  generalize e3 : h2.alloc (.cells [.nils] .ex) = h3 at *
  have x3 := S3.cell (13 + 2) (zat 13 hT _ 2)
  have hst : storeV 1 (.ptr h2.next 0) PV h3 = some (h3.set h2.next (.cells [PV] .ex)) := by rw [store_o _ _ _ cPV, x3]; rfl
  have S4 := S3.store (13 + 2) (zat 13 hT _ 2) [PV]
  rw [zset 13 hT] at S4
  generalize e4 : h3.set h2.next (.cells [PV] .ex) = h4 at *
  have x41 := S4.cell (13 + 0) (zat 13 hT _ 0)
  generalize hc1 : g.next = c1 at *
  generalize ht3 : h2.next = t3 at *
  simp (disch := omega) only [J28_1, J28_2, i, sh, sh2, shi, dec, x1, c3, b_len, hln, hmk, hn2, hst, x41]
  refine All_ok.mono ?_
  rintro _ _ ⟨rfl, rfl⟩
  simp only [J28_13]
  refine range_i fun r hs hp rule => ?_
  have S5 := S4.new [.ptr x 0]
  rw [List.append_assoc] at S5
  have S6 := S5.newLoop hs hp
  rw [List.append_assoc] at S6
  generalize e5 : h4.alloc (.cells [.ptr x 0] .ex) = h5 at *
  generalize e6 : h5.alloc (.loop r) = h6 at *
  generalize hy : h5.next = y at *
  generalize hc5 : h4.next = c5 at *
  have S6 : Sep S g h6 (FrT x m a st.first st.harts CV st.counts CC st.common st.bs rs ++ [Thing.cells c1 [.ptr x 0], Thing.vec intE PV (List.replicate st.counts.length 0), Thing.cells t3 [PV], Thing.cells c5 [.ptr x 0], Thing.loop y r .ready none]) := S6
  refine (walk_ok (c := c5) (x := x) (m := m) (first := st.first) (harts := st.harts) (CV := CV) (CC := CC) (counts := st.counts)
    (I := fun k h => ∃ pl, Sep S g h (FrT x m a st.first st.harts CV st.counts CC st.common st.bs rs ++ [Thing.cells c1 [.ptr x 0], Thing.vec intE PV pl, Thing.cells t3 [PV], Thing.cells c5 [.ptr x 0], Thing.loop y r .ready none]) ∧ Marks st.counts.length pl (usedM st.counts k)) (Q := fun _ => False)
    bd.2.2 bd.1 bd.2.1 ?_ ⟨_, S6, ?_⟩ ?_ ?_).mono ?_
  · rintro k h ⟨pl, Sk, M⟩
    exact ⟨Sk.cell (13 + 3) (zat 13 hT _ 3), fr_fc Sk h8, fr_cv Sk⟩
  · refine ⟨by simp, fun q hq => ?_⟩
    rw [List.getElem?_replicate, if_pos hq]
    unfold usedM
    rw [if_neg (by omega)]
  · rintro k h n ⟨pl, Sk, M⟩ hk hn
    exact ⟨pl, Sk, M.congr fun q _ => usedM_skip hk hn q⟩
  · rintro k h n K ⟨pl, Sk, M⟩ hk hn hT2 _
    have hkl := (List.getElem?_eq_some_iff.1 hk).1
    refine rule _ _ _ none _ (Sk.loopAt (13 + 4) (zat 13 hT _ 4)) ⟨_, _, rfl, ?_⟩
    simp only [R28_14]
    refine Sk.begin (13 + 4) (zat 13 hT _ 4) fun h7 S7 f7 n7 => ?_
    rw [zset 13 hT] at S7
    have S7 : Sep S g h7 (FrT x m a st.first st.harts CV st.counts CC st.common st.bs rs ++ [Thing.cells c1 [.ptr x 0], Thing.vec intE PV pl, Thing.cells t3 [PV], Thing.cells c5 [.ptr x 0], Thing.loop y r .busy none]) := S7
    have x7 := S7.cell (13 + 0) (zat 13 hT _ 0)
    have x73 := S7.cell (13 + 2) (zat 13 hT _ 2)
    have C7 := fr_fc S7 h8
    have k1 := C7.c1
    have ml := M.1
    have hcv := M.2 k hkl
    have hu : usedM st.counts k k = 0 := by unfold usedM; rw [if_neg (by omega)]
    obtain ⟨b, off, h9, ix9, ld9, st9, S9⟩ := Sep.stn S7 (13 + 1) (zat 13 hT _ 1) (j := k) (by omega) (usedM st.counts k k + 1)
    rw [zset 13 hT] at S9
    have ld9 := ld9 _ hcv
    rw [hu] at ld9 st9
    have ek : st.first + (k : Int) - st.first = (k : Int) := by omega
    simp (disch := omega) only [B28_14, i, sh, sh2, shi, dec, x7, x73, k1, ek, ix9, ld9, st9]
    refine ⟨?_, trivial⟩
    have S9 : Sep S g h9 (FrT x m a st.first st.harts CV st.counts CC st.common st.bs rs ++ [Thing.cells c1 [.ptr x 0], Thing.vec intE PV (pl.set k (usedM st.counts k k + 1)), Thing.cells t3 [PV], Thing.cells c5 [.ptr x 0], Thing.loop y r .busy none]) := S9
    simp only [she]
    refine S9.end_ (13 + 4) (zat 13 hT _ 4) none fun h10 S10 f10 n10 => ?_
    rw [zset 13 hT] at S10
    exact hT2 h10 ⟨_, S10, M.set hkl fun q hq => usedM_step hk hn q⟩
  · rintro _ h (⟨pl, Sk, M⟩ | hF)
    · refine Sk.leave (13 + 4) (zat 13 hT _ 4) (by decide) fun h' S' f' n' => ?_
      rw [zer 13 hT] at S'
      simp only [jumpM]
      have S' : Sep S g h' (FrT x m a st.first st.harts CV st.counts CC st.common st.bs rs ++ ([Thing.cells c1 [.ptr x 0], Thing.vec intE PV pl, Thing.cells t3 [PV]] ++ [Thing.cells c5 [.ptr x 0]])) := S'
      rw [← List.append_assoc] at S'
      refine right_tail hl w S'.init M fun h2 Zs S2 => ⟨rfl, ?_⟩
      refine fr_shut (rs := rs) (a := a) (CV := CV) (CC := CC) ?_ hl w
      rw [List.append_nil]
      exact S2.sub (List.sublist_append_left _ _)
    · exact hF.elim
end
end Go.Proofs.Ytoajcekgoalhjaa
