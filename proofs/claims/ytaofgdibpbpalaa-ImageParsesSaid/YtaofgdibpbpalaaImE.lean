/-
  parapetlaw23.ImageMakes returns true for every image: no condition.
-/
import Derived.Test.YtaofgdibpbpalaaImC
import Derived.Test.YtaofgdibpbpalaaImD
set_option linter.all false
namespace Go.Proofs.Ytaofgdibpbpalaa
open Go.ChangeShapes Go.WideShapes Go.ChangeAt Go.RowKit Go.Lm
set_option linter.unusedSimpArgs false
def reachedL : List FuncId := [16, 18, 41, 69, 68, 58, 14, 56, 57]
set_option maxRecDepth 1000000 in
theorem fineL : reachedL.all (fineF Try.prog) = true := by kernel_rfl
set_option maxRecDepth 1000000 in
theorem lives_computed : (flats [] && (LV.bool true).flat && callB Try.prog reachedL 3000 16 [] (emp 0) fun v _ => v.eqb (.bool true)) = true := by kernel_rfl
theorem lives_pure : Pure Try.prog 16 [] (.bool true) := pure_computed Try.mixed fineL lives_computed
theorem Made.lo {g h : LHeap} {en : Int} {segs : List Seg} {zs : List (Int × Int)} {v : LV} (M : Made g en segs zs v h) : Lo g.next g h := by
  rcases M with ⟨_, _, _, _, f⟩ | ⟨_, _, f⟩ <;> exact f
theorem Fr.up' {g h k : LHeap} (f : Lo g.next g h) (f2 : Lo h.next h k) : Lo g.next g k := f.trans (f2.mono fun _ _ hh => Nat.le_trans f.le hh)
set_option maxRecDepth 4000 in
set_option maxHeartbeats 4000000 in
theorem makes_any {g : LHeap} {en : Int} {SV ZV : LV} {ss : List (Int × LV)} {segs : List Seg} {zs : List (Int × Int)} (H : Img g SV ZV ss segs zs) (hf : Fits segs) (hB : ∀ s ∈ segs, Bytes s.2) :
    Ok Try.prog 10 [.agg [i en, SV, ZV]] g fun v _ => v = .bool true := by
  refine ok10 fun wf lt => ?_
  have f0 : Lo g.next g (g.alloc (.cells [i en, SV, ZV] .ex)) := (Fr.alloc g _).mono fun _ _ => False.elim
  have x0 : (g.alloc (.cells [i en, SV, ZV] .ex)).get g.next = some (.cells [i en, SV, ZV] .ex) := get_alloc_eq _ _
  simp (disch := omega) only [F10, J10_0, i, sh, sh2, shs, shc, shi, dec, H.sv.cell, H.zv.cell, hcp3]
  refine (make_ok (H.lo wf f0)).mono ?_
  intro v1 h1 M1
  have f1 := M1.lo
  have x1 : h1.get g.next = some (.cells [i en, SV, ZV] .ex) := (f1.eq _ (Nat.lt_succ_self _) (by simp only [LHeap.next_alloc]; omega)).trans x0
  have lo1 := Fr.up' f0 f1
  have n1 := lo1.le
  have n1' := f1.le
  simp only [LHeap.next_alloc] at n1'
  have step : ∀ {P : Prop}, P → P := id
  rcases checkN_two en segs zs with hN | hN
  · rcases M1 with ⟨_, V1, rfl, vec1, _⟩ | ⟨hN', _⟩
    rotate_left
    · omega
    simp (disch := omega) only [J10_1, i, sh, sh2, shs, shc, shi, dec, x1, hcp3]
    refine (refmake_ok (H.lo wf lo1)).mono ?_
    intro v2 h2 M2
    have f2 := M2.lo
    have x2 := (f2.eq _ (by omega) (by omega)).trans x1
    have lo2 := Fr.up' lo1 f2
    rcases M2 with ⟨_, V2, rfl, vec2, _⟩ | ⟨hN', _⟩
    rotate_left
    · omega
    have vec1' := vec1.up f2 fun a ha e => by have := (vec1.lo a ha).2; omega
    have t1 := vec1'.row.text (P := Try.prog) ty.2.2 ty9 ty5
    have t2 := vec2.row.text (P := Try.prog) ty.2.2 ty9 ty5
    have hq : (textOf (makeB en segs zs) == textOf (makeB en segs zs)) = true := by simp
    simp (disch := omega) only [sh, sh2]
    unfold J10_2
    refine ⟨lives_pure.to ?_, trivial⟩
    simp (maxSteps := 10000000) (disch := omega) only [i, sh, sh2, shs, shc, shi, dec, x2, hcp3, conv_l, t1, t2, Option.map_some, binL_neq_str, hq]
    refine (check_ok (H.lo wf lo2)).mono ?_
    rintro _ h3 ⟨rfl, f3⟩
    have x3 := (f3.eq _ (Nat.lt_of_lt_of_le (by omega) f2.le) id).trans x2
    have lo3 := lo2.trans (f3.mono fun _ _ => False.elim)
    refine ⟨by rw [x3]; exact hcp3 _ _ _, ?_⟩
    refine (refcheck_ok (H.lo wf lo3)).mono ?_
    rintro _ h4 ⟨rfl, f4⟩
    have x4 := (f4.eq _ (Nat.lt_of_lt_of_le (by omega) (Nat.le_trans f2.le f3.le)) id).trans x3
    have lo4 := lo3.trans (f4.mono fun _ _ => False.elim)
    simp (maxSteps := 10000000) (disch := omega) only [i, sh, sh2, shs, shc, shi, dec, x4, hcp3]
    refine (pages43_ok (H.lo wf lo4)).mono ?_
    rintro _ h5 ⟨rfl, f5⟩
    have n4 : g.next < h4.next := Nat.lt_of_lt_of_le (by omega) (Nat.le_trans f2.le (Nat.le_trans f3.le f4.le))
    have x5 := (f5.eq _ n4 (by omega)).trans x4
    have lo5 := Fr.up' lo4 f5
    refine ⟨by rw [x5]; exact hcp3 _ _ _, ?_⟩
    refine (pages44_ok (H.lo wf lo5)).mono ?_
    rintro _ h6 ⟨rfl, f6⟩
    have x6 := (f6.eq _ (Nat.lt_of_lt_of_le n4 f5.le) (by have := f5.le; omega)).trans x5
    have lo6 := Fr.up' lo5 f6
    have lo16 : Lo h1.next h1 h6 := ((f2.trans (f3.mono fun _ _ => False.elim)).trans (f4.mono fun _ _ => False.elim)).trans ((f5.mono fun a _ hh => Nat.le_trans (Nat.le_trans f2.le (Nat.le_trans f3.le f4.le)) hh).trans (f6.mono fun a _ hh => Nat.le_trans (Nat.le_trans f2.le (Nat.le_trans f3.le (Nat.le_trans f4.le f5.le))) hh))
    have vec6 := vec1.up lo16 fun a ha e => by have := (vec1.lo a ha).2; omega
    simp (disch := omega) only [i, sh, sh2, shs, shc, shi, dec, J10_3]
    refine (parse_ok vec6.row vec6.grow.capd (makeB_bytes hB)).mono ?_
    rintro v h7 ⟨f7, hP⟩
    rw [parse_make hN hf] at hP
    rcases hP with ⟨hP, _⟩ | ⟨en', segs', zs', SV', ZV', ss', hP, rfl, IN⟩
    · cases hP
    cases hP
    have x7 := (f7.eq _ (Nat.lt_of_lt_of_le n4 (Nat.le_trans f5.le f6.le)) (by have := f5.le; have := f6.le; omega)).trans x6
    have lo7 := Fr.up' lo6 f7
    have F := checkN_facts hN
    have a1 : (h7.alloc (.cells [i en, SV', ZV'] .ex)).get g.next = some (.cells [i en, SV, ZV] .ex) := by rw [get_alloc_ne _ _ (by have := f5.le; have := f6.le; have := f7.le; omega)]; exact x7
    have lo8 : Lo g.next g (h7.alloc (.cells [i en, SV', ZV'] .ex)) := lo7.alloc' _
    have I2 : Img (h7.alloc (.cells [i en, SV', ZV'] .ex)) SV' ZV' ss' segs zs := by
      have up : ∀ {X : Type} {E : Enc X} {U : LV} {l : List X}, Row h7 U E l → (∀ a, U.obj = some a → h6.next ≤ a ∧ a < h7.next) → Row (h7.alloc (.cells [i en, SV', ZV'] .ex)) U E l := fun r hr => r.fr fun a ha => get_alloc_ne _ _ (by have := hr a ha; omega)
      exact ⟨up IN.img.sv IN.so, IN.img.sb.monoM fun s t hs h => ⟨h.1, up h.2 (IN.ro s hs)⟩, up IN.img.zv IN.zo⟩
    simp (disch := omega) only [i, sh, sh2, shs, shc, shi, dec, IN.img.sv.cell, IN.img.zv.cell, hcp3, a1]
    refine (same_ok I2 (H.lo wf lo8) ⟨by have := F.sl; omega, by have := F.zl; omega⟩).mono ?_
    rintro _ h8 ⟨rfl, _⟩
    simp (disch := omega) only [sh, sh2]
  · rcases M1 with ⟨hN', _⟩ | ⟨_, rfl, _⟩
    · omega
    simp (disch := omega) only [J10_1, i, sh, sh2, shs, shc, shi, dec, x1, hcp3]
    refine (refmake_ok (H.lo wf lo1)).mono ?_
    intro v2 h2 M2
    have f2 := M2.lo
    have x2 := (f2.eq _ (by omega) (by omega)).trans x1
    have lo2 := Fr.up' lo1 f2
    rcases M2 with ⟨hN', _⟩ | ⟨_, rfl, _⟩
    · omega
    have t1 := (Row.nils h2 byteE).text (P := Try.prog) ty.2.2 ty9 ty5
    have hq : (textOf [] == textOf []) = true := by simp
    simp (disch := omega) only [sh, sh2]
    unfold J10_2
    refine ⟨lives_pure.to ?_, trivial⟩
    simp (maxSteps := 10000000) (disch := omega) only [i, sh, sh2, shs, shc, shi, dec, x2, hcp3, conv_l, t1, Option.map_some, binL_neq_str, hq]
    refine (check_ok (H.lo wf lo2)).mono ?_
    rintro _ h3 ⟨rfl, f3⟩
    have x3 := (f3.eq _ (Nat.lt_of_lt_of_le (by omega) f2.le) id).trans x2
    have lo3 := lo2.trans (f3.mono fun _ _ => False.elim)
    refine ⟨by rw [x3]; exact hcp3 _ _ _, ?_⟩
    refine (refcheck_ok (H.lo wf lo3)).mono ?_
    rintro _ h4 ⟨rfl, f4⟩
    have x4 := (f4.eq _ (Nat.lt_of_lt_of_le (by omega) (Nat.le_trans f2.le f3.le)) id).trans x3
    have lo4 := lo3.trans (f4.mono fun _ _ => False.elim)
    simp (maxSteps := 10000000) (disch := omega) only [i, sh, sh2, shs, shc, shi, dec, x4, hcp3]
    refine (pages43_ok (H.lo wf lo4)).mono ?_
    rintro _ h5 ⟨rfl, f5⟩
    have n4 : g.next < h4.next := Nat.lt_of_lt_of_le (by omega) (Nat.le_trans f2.le (Nat.le_trans f3.le f4.le))
    have x5 := (f5.eq _ n4 (by omega)).trans x4
    have lo5 := Fr.up' lo4 f5
    refine ⟨by rw [x5]; exact hcp3 _ _ _, ?_⟩
    refine (pages44_ok (H.lo wf lo5)).mono ?_
    rintro _ h6 ⟨rfl, f6⟩
    simp (disch := omega) only [i, sh, sh2, shs, shc, shi, dec, J10_3]
end Go.Proofs.Ytaofgdibpbpalaa
