/-
  parapetlaw25.PmNobody returns true for every event and number: no condition but the tied variables' (the card).
-/
import Derived.Test.YtbccldpihdkjbaaGreatDoorPn0
import Derived.Test.YtbccldpihdkjbaaGreatDoorLm4x
import Derived.Test.YtbccldpihdkjbaaGreatDoorLm6x
import Derived.Test.YtbccldpihdkjbaaGreatDoorCards
import Derived.Test.YtbccldpihdkjbaaGreatDoorTie
import Derived.ProofKit
import Derived.Lay
import Derived.LaidOnce
import Derived.SevenTiedAt
import Derived.SizedLaws
set_option linter.all false
namespace Go.Proofs.YtbccldpihdkjbaaGreatDoor
open Go.ChangeShapes Go.WideShapes Go.ChangeAt Go.RowKit Go.Lm
set_option maxRecDepth 1000000
theorem u3' : Tryz.prog.underlying 3 = some (.int .i64) := by kernel_rfl
theorem u9' : Tryz.prog.underlying 9 = some .string := by kernel_rfl
theorem u21' : Tryz.prog.underlying 21 = some (.int .i32) := by kernel_rfl
def reachedN : List FuncId := [3, 4, 14, 15, 5, 16, 6, 18, 17, 25, 26, 27, 28, 47, 70, 48, 71, 130, 209, 210, 131, 132, 225, 226, 230, 46, 29, 30, 49, 50, 51, 72, 134, 133, 73, 31, 32, 7, 19, 33, 52, 74, 75, 36, 62, 112, 22, 42, 20, 39, 64, 40, 66, 125, 126, 65, 116, 122, 199, 117, 194, 118, 195, 196, 119, 197, 198, 218, 120, 121, 123, 124, 114, 113, 192, 63, 115, 193, 53, 76, 77, 78, 135, 136, 79, 54, 80, 81, 55, 34, 56, 57, 82, 138, 137, 83, 59, 140, 141, 142, 139, 84, 21, 41, 143, 85, 144, 86, 87, 88, 145, 89, 146, 90, 147, 148, 214, 149, 61, 91, 150, 151, 92, 152, 93, 153, 94, 154, 215, 216, 227, 155, 156, 95, 157, 158, 96, 159, 217, 228, 160, 161, 162, 163, 164, 165, 45, 166, 167, 168, 169, 97, 170, 171, 172, 173, 174, 175, 24, 176, 177, 98, 178, 99, 179, 180, 100, 181, 101, 182, 102, 183, 184, 103, 185, 186, 187, 104, 188, 105, 106, 189, 190, 107, 108, 191, 109, 110, 111, 58, 60, 35, 37, 38, 8, 11, 23, 44, 69, 43, 67, 127, 68, 128, 200, 206, 222, 201, 219, 202, 203, 220, 221, 229, 204, 205, 207, 208, 9, 10, 12, 13]
theorem fineN : reachedN.all (fineF Tryz.prog) = true := by kernel_rfl
theorem nobody_computed (a b c d e r n : Int) (s : List UInt8) : (flats [.agg [i a, i b, i c, i d, i e, .int .i32 r, .str s], i n] && (LV.bool true).flat && callB Tryz.prog reachedN 500 3 [.agg [i a, i b, i c, i d, i e, .int .i32 r, .str s], i n] (emp 0) fun v _ => v.eqb (.bool true)) = true := by kernel_rfl
theorem nobody_pure (a b c d e r n : Int) (s : List UInt8) : Pure Tryz.prog 3 [.agg [i a, i b, i c, i d, i e, .int .i32 r, .str s], i n] (.bool true) := pure_computed Tryz.mixed fineN (nobody_computed a b c d e r n s)
theorem body3 (g : LHeap) (xs : List LV) (h : ShpArgs Tryz.prog g 7 [23, 3] xs) : Ok Tryz.prog 3 xs g fun v _ => v = .bool true := by
  obtain ⟨xss, ys, rfl, hA, h2⟩ := shp_struct Tryz.underlying23 h
  obtain ⟨a, _, rfl, _, _, hA⟩ := alls_int u3' hA
  obtain ⟨b, _, rfl, _, _, hA⟩ := alls_int u3' hA
  obtain ⟨c, _, rfl, _, _, hA⟩ := alls_int u3' hA
  obtain ⟨d, _, rfl, _, _, hA⟩ := alls_int u3' hA
  obtain ⟨e, _, rfl, _, _, hA⟩ := alls_int u3' hA
  obtain ⟨r, _, rfl, _, _, hA⟩ := alls_int u21' hA
  obtain ⟨s, _, rfl, _, hA⟩ := alls_str u9' hA
  obtain rfl := alls_nil hA
  obtain ⟨n, ys, rfl, _, _, h3⟩ := shp_int u3' h2
  obtain rfl := shp_nil h3
  exact (nobody_pure a b c d e r n s).to rfl

abbrev laidV : List (String × DataW Unit) := [("unicode/utf8.acceptRanges", Rows.laid_unicode_utf8_acceptRanges), ("unicode/utf8.first", Rows.laid_unicode_utf8_first)]
set_option maxRecDepth 100000 in
theorem lifted (os : Os) (started : os.Started) (H : Type) (enc : TypeId × Value → H) :
    ReturnsInHanded {} Tryz.checked os 3 .any (fun w args => (Rows.pmNobodySpec.pre enc Tryz.prog Tryz.f3 [] false w args ∧ laidMetH Tryz.prog laidV w) ∧ sizedMet enc Tryz.prog Tryz.f3 (OpenSpec.ofChange Rows.pmNobodySpec) false w args)
      (Rows.pmNobodySpec.post enc Tryz.prog Tryz.f3 false true false false) := by
  refine returnsInHanded_of_change_and (C := Tryz.checked) (X := fun w _ => laidMetH Tryz.prog laidV w) (fun _ _ _ hh h => h.of_heap hh) Tryz.own started (by kernel_rfl) Tryz.func3
    (ChangeSpec.witness_shaped (enc := enc) (C := Tryz.checked) (os := os) (X := fun w _ => laidMetH Tryz.prog laidV w) false (World.laidAll Tryz.prog os laidV) #[.agg #[.int .i64 0, .int .i64 0, .int .i64 0, .int .i64 0, .int .i64 0, .int .i32 0, .string ⟨#[]⟩], .int .i64 0] 8 (World.laidAll_os _ _ _)
      (World.shaped_of_ZipB (by kernel_rfl) (by kernel_rfl)) (by kernel_rfl) (by kernel_rfl) (by kernel_rfl)
      (by rw [MakeChecks.laidMetH_plain _ _ _ (by kernel_rfl)]; exact laidMet_laidAll _ (by kernel_rfl) (by kernel_rfl))) ?_
  intro W base args ds gs before hval0 hW _ hz0 hL _
  have hz : (DataW.weightsEach Tryz.prog (Tryz.f3.params.toList ++ []) (ds ++ gs)).all (· ≤ reachBytes) = true := hz0
  have hval : ∀ (j : Nat) t v, Tryz.f3.params[j]? = some t → args[j]? = some v → Value.okWide Tryz.prog W .any base t v := hval0
  have hW' := hW
  obtain ⟨p, q, hA0, hV, rfl, hfz, hnd⟩ := hW
  have hA : DataW.TrodAll enc Tryz.prog W 0 (fun _ => true) true Tryz.f3.params.toList args.toList ds p := hA0
  rw [Tryz.params3] at hA hval hz
  obtain ⟨v0, v1, d0, d1, p0, p1, _, rfl, _, _, _⟩ := trodAll_two hA
  obtain ⟨rfl, rfl⟩ := trodVars_none hV
  refine (law_calls (P := Tryz.prog) (n := 7) (ts := [23, 3]) (by kernel_rfl) hA hz (fun j t v ht hv => hval j t v (by simpa using ht) hv) (fun g xs _ hs => body3 g xs hs)).mono fun e W' ⟨he, hb⟩ => ?_
  subst he
  exact ⟨_, rfl, post_true (P := Tryz.prog) (t := 4) Tryz.laidOut (by rw [Tryz.params3]; intro t ht; simp at ht; rcases ht with rfl | rfl <;> exact ⟨by kernel_rfl, by rw [Tryz.types_size]; decide⟩) rfl hW' (by kernel_rfl) (by kernel_rfl) rfl hb⟩

theorem row_holds : Rows.PmNobodySaid :=
  OpenClaim.holds_of_wide 3 Tryz.f3 rfl rfl rfl rfl rfl rfl rfl ⟨rfl, rfl, rfl, rfl, rfl⟩ rfl rfl rfl rfl rfl (by kernel_rfl) Tryz.func3 (by kernel_rfl)
    (of_decide_eq_true (by kernel_rfl)) (by unfold Func.isWrapper; first | (rw [if_pos (by decide +kernel)]; kernel_rfl) | (rw [if_neg (by decide +kernel)]; exact ⟨rfl, rfl⟩))
    (fun os started H enc _ => lifted os started H enc)
set_option maxRecDepth 100000 in
theorem holds : Rows.PmNobodyCardSaid :=
  Claim7.holds_tied_plain_at .later [] [.data, .pinned] true (true, "9e3d6000ec0f9b96f0019452bf5d9c3ac555aa12f98e3faa6456125c6db4234c") true row_holds (fun _ h => by cases h) (by kernel_rfl) (fun _ h => by cases h) pmNobody_row_tie rfl ⟨rfl, rfl⟩ (by kernel_rfl) rfl
    (fun f fn hf hfn => by
      obtain rfl : f = 3 := Option.some.inj ((show Tryz.prog.funcNamed "parapet/parapetlaw25.PmNobody" = some 3 by kernel_rfl).symm.trans hf) |>.symm
      obtain rfl : fn = Tryz.f3 := (Option.some.inj (Tryz.func3.symm.trans hfn)).symm
      exact ⟨by kernel_rfl, fun j t ht => by
        rw [Tryz.params3] at ht
        have hm : t ∈ [23, 3] := by simpa using Array.mem_of_getElem? ht
        have hall : ([23, 3].all fun u => !Tryz.prog.wantsStandIn u) = true := by kernel_rfl
        exact (show Tryz.prog.wantsStandIn t = false by simpa using List.all_eq_true.1 hall t hm)⟩)
    (by kernel_rfl)

#print axioms holds

end Go.Proofs.YtbccldpihdkjbaaGreatDoor
