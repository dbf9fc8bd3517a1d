/-
  parapetref23.Parse: the walk.
-/
import Derived.Test.YtaofgdibpbpalaaImR
import Derived.Test.YtaofgdibpbpalaaImD
set_option linter.all false
namespace Go.Proofs.Ytaofgdibpbpalaa
open Go.ChangeShapes Go.WideShapes Go.ChangeAt Go.RowKit Go.Lm
set_option linter.unusedSimpArgs false
abbrev Z3 : List LV := [i 0, .nils, .nils]
theorem sep_lo {g h : LHeap} {Ts : List Thing} (S : Sep noF g h Ts) : Lo g.next g h := S.fr.mono fun _ _ => False.elim
theorem sep_bad {g h : LHeap} {Ts : List Thing} {bs : List Int} (S : Sep noF g h (Thing.cells g.next Z3 :: Ts)) (hp : parseN bs = none) : Parsed g bs (.tuple [.agg [i 0, .nils, .nils], i 230]) (h.set g.next (.cells [i 0, .nils, .nils] .ex)) :=
  ⟨(sep_lo S).set' _ (.inl (Nat.le_refl _)), .inl ⟨hp, rfl⟩⟩
theorem sgK_fits {bs : List Int} (hB : Bytes bs) (k : Nat) : Fits (sgK bs k) := ⟨fun s hs => by
  obtain ⟨j, _, rfl⟩ := List.mem_map.1 hs
  have := wd_range hB (3 + 2 * j)
  show wd bs (3 + 2 * j) < _
  omega⟩
theorem sgK_bytes {bs : List Int} (hB : Bytes bs) (k : Nat) : ∀ s ∈ sgK bs k, Bytes s.2 := fun s hs x hx => by
  obtain ⟨j, _, rfl⟩ := List.mem_map.1 hs
  exact hB x (List.mem_of_mem_drop (List.mem_of_mem_take hx))
theorem beq_text (a b : List Int) : (textOf a == textOf b) = decide (textOf a = textOf b) := by
  by_cases h : textOf a = textOf b <;> simp [h]
set_option maxRecDepth 4000 in
set_option maxHeartbeats 4000000 in
theorem ref_end {g h : LHeap} {V0 N SV ZV : LV} {bs W : List Int} {xi k1 k2 : Nat} {ss : List (Int × LV)} (wf : g.Wf) (RV : Row g V0 byteE bs) (hB : Bytes bs) (hl : bs.length ≤ 16384)
    (S : Sep noF g h [.cells g.next Z3, .vec intE N W, .cells xi [i (wd bs 0), SV, ZV], .vec segE SV ss, Rows ss (sgK bs k1), .vec zE ZV (zeK bs k2)]) (h1 : k1 = (wd bs 1).toNat) (h2 : k2 = (wd bs 2).toNat) :
    J15_8 V0 (.ptr g.next 0) (.ptr xi 0) h (Parsed g bs) := by
  have H : Img h SV ZV ss (sgK bs k1) (zeK bs k2) := ⟨S.row 3 rfl, S.at 4 rfl, S.row 5 rfl⟩
  have x6 := S.cell 2 rfl
  have z6 := S.cell 0 rfl
  have hz : ∀ en segs zs, parseN bs = some (en, segs, zs) → en = wd bs 0 ∧ segs = sgK bs k1 ∧ zs = zeK bs k2 := fun en segs zs hp => by
    have G := good hB hp
    exact ⟨G.e0.symm, by rw [h1]; exact G.e1.symm, by rw [h2]; exact G.e2.symm⟩
  simp (disch := omega) only [J15_8, i, sh, sh2, x6, hcp3]
  refine (refmake_ok H).mono ?_
  intro v h3 M
  have f3 : Lo h.next h h3 := by rcases M with ⟨_, _, _, _, f⟩ | ⟨_, _, f⟩ <;> exact f
  have f3' : Fr noF h h3 := ⟨f3.le, fun a ha _ => f3.eq a ha (by omega)⟩
  have S3 := S.pure f3'
  have x7 := S3.cell 2 rfl
  have z7 := S3.cell 0 rfl
  rcases M with ⟨hN, V, rfl, O, _⟩ | ⟨hN, rfl, _⟩
  · have t1 := O.row.text (P := Try.prog) ty.2.2 ty9 ty5
    have t2 := (RV.old wf S3.fr).text (P := Try.prog) ty.2.2 ty9 ty5
    by_cases he : makeB (wd bs 0) (sgK bs k1) (zeK bs k2) = bs
    · rw [he] at t1
      have hq : (textOf bs == textOf bs) = true := by simp
      have hp := parse_make hN (sgK_fits hB k1)
      rw [he] at hp
      simp (disch := omega) only [i, sh, sh2, shs, shc, shi, dec, t1, t2, binL_neq_str, hq, x7, z7, hcp3, ret14]
      have cS := (S3.row 3 rfl).cell
      have cZ := (S3.row 5 rfl).cell
      simp (disch := omega) only [i, sh, sh2, shs, shc, shi, dec, cS, cZ, hcp3]
      have S4 := S3.store 0 rfl [i (wd bs 0), SV, ZV]
      refine ⟨sep_lo S4, .inr ⟨wd bs 0, sgK bs k1, zeK bs k2, SV, ZV, ss, hp, rfl, ⟨⟨S4.row 3 rfl, S4.at 4 rfl, S4.row 5 rfl⟩, fun a ha => ⟨S4.ge 3 rfl ha, S4.lt 3 rfl ha⟩, fun a ha => ⟨S4.ge 5 rfl ha, S4.lt 5 rfl ha⟩, fun s hs a ha => ⟨S4.ge 4 rfl ⟨s, hs, ha⟩, S4.lt 4 rfl ⟨s, hs, ha⟩⟩⟩⟩⟩
    · have hq : (textOf (makeB (wd bs 0) (sgK bs k1) (zeK bs k2)) == textOf bs) = false := by
        rw [beq_text]
        exact decide_eq_false fun e => he (text_inj (makeB_bytes (sgK_bytes hB k1)) hB e)
      simp (disch := omega) only [i, sh, sh2, shs, shc, shi, dec, t1, t2, binL_neq_str, hq, x7, z7, hcp3, bl27 h3, ret14]
      refine sep_bad S3 ?_
      cases hp : parseN bs with
      | none => rfl
      | some x =>
        obtain ⟨en, segs, zs⟩ := x
        obtain ⟨_, m, _⟩ := parse_facts hB hp
        obtain ⟨rfl, rfl, rfl⟩ := hz _ _ _ hp
        exact absurd m he
  · simp (disch := omega) only [i, sh, sh2, shs, shc, shi, dec, x7, z7, hcp3, bl27 h3, ret14]
    refine sep_bad S3 ?_
    cases hp : parseN bs with
    | none => rfl
    | some x =>
      obtain ⟨en, segs, zs⟩ := x
      obtain ⟨c, _, _⟩ := parse_facts hB hp
      obtain ⟨rfl, rfl, rfl⟩ := hz _ _ _ hp
      omega
end Go.Proofs.Ytaofgdibpbpalaa
