/-
  parapetlaw19.NamecNobody returns true for every name, number and path: no condition but the tied variables' (the card).
-/
import Derived.Test.YthinkofjbabfbaaDoorNcC
import Derived.Test.YthinkofjbabfbaaDoorLm6x
import Derived.Test.YthinkofjbabfbaaDoorCards
import Derived.Test.YthinkofjbabfbaaDoorTie
import Derived.ProofKit
import Derived.Lay
import Derived.LaidOnce
import Derived.SevenTiedAt
import Derived.SizedLaws
set_option linter.all false
namespace Go.Proofs.YthinkofjbabfbaaDoor
open Go.ChangeShapes Go.WideShapes Go.ChangeAt Go.RowKit Go.Lm
set_option maxRecDepth 1000000
theorem u3' : Tryd.prog.underlying 3 = some (.int .i64) := by kernel_rfl
def reachedN : List FuncId := [10, 35, 51, 50, 52, 23, 26] ++ reachedL
theorem fineN : reachedN.all (fineF Tryd.prog) = true := by kernel_rfl
theorem nobody_computed (d n : Int) (s p : Str) : (flats [.agg [i d, .str s], i n, .str p] && (LV.bool true).flat && callB Tryd.prog reachedN 3000 10 [.agg [i d, .str s], i n, .str p] (emp 0) fun v _ => v.eqb (.bool true)) = true := by kernel_rfl
theorem nobody_pure (d n : Int) (s p : Str) : Pure Tryd.prog 10 [.agg [i d, .str s], i n, .str p] (.bool true) := pure_computed Tryd.mixed fineN (nobody_computed d n s p)
theorem body10 (g : LHeap) (xs : List LV) (h : ShpArgs Tryd.prog g 7 [42, 3, 9] xs) : Ok Tryd.prog 10 xs g fun v _ => v = .bool true := by
  obtain ⟨xss, ys, rfl, hA, h2⟩ := shp_struct Tryd.underlying42 h
  obtain ⟨d, _, rfl, _, _, hA⟩ := alls_int u3' hA
  obtain ⟨s, _, rfl, _, hA⟩ := alls_str u9 hA
  obtain rfl := alls_nil hA
  obtain ⟨n, ys, rfl, _, _, h3⟩ := shp_int u3' h2
  obtain ⟨p, ys, rfl, _, h4⟩ := shp_str u9 h3
  obtain rfl := shp_nil h4
  exact (nobody_pure d n s p).to rfl

abbrev laidV : List (String × DataW Unit) := [("unicode/utf8.acceptRanges", Rows.laid_unicode_utf8_acceptRanges), ("unicode/utf8.first", Rows.laid_unicode_utf8_first)]
set_option maxRecDepth 100000 in
theorem lifted (os : Os) (started : os.Started) (H : Type) (enc : TypeId × Value → H) :
    ReturnsInHanded {} Tryd.checked os 10 .any (fun w args => (Rows.namecNobodySpec.pre enc Tryd.prog Tryd.f10 [] false w args ∧ laidMetH Tryd.prog laidV w) ∧ sizedMet enc Tryd.prog Tryd.f10 (OpenSpec.ofChange Rows.namecNobodySpec) false w args)
      (Rows.namecNobodySpec.post enc Tryd.prog Tryd.f10 false true false false) := by
  refine returnsInHanded_of_change_and (C := Tryd.checked) (X := fun w _ => laidMetH Tryd.prog laidV w) (fun _ _ _ hh h => h.of_heap hh) Tryd.own started (by kernel_rfl) Tryd.func10
    (ChangeSpec.witness_shaped (enc := enc) (C := Tryd.checked) (os := os) (X := fun w _ => laidMetH Tryd.prog laidV w) false (World.laidAll Tryd.prog os laidV) #[.agg #[.int .i64 0, .string ⟨#[]⟩], .int .i64 0, .string ⟨#[]⟩] 8 (World.laidAll_os _ _ _)
      (World.shaped_of_ZipB (by kernel_rfl) (by kernel_rfl)) (by kernel_rfl) (by kernel_rfl) (by kernel_rfl)
      (by rw [MakeChecks.laidMetH_plain _ _ _ (by kernel_rfl)]; exact laidMet_laidAll _ (by kernel_rfl) (by kernel_rfl))) ?_
  intro W base args ds gs before hval0 hW _ hz0 hL _
  have hz : (DataW.weightsEach Tryd.prog (Tryd.f10.params.toList ++ []) (ds ++ gs)).all (· ≤ reachBytes) = true := hz0
  have hval : ∀ (j : Nat) t v, Tryd.f10.params[j]? = some t → args[j]? = some v → Value.okWide Tryd.prog W .any base t v := hval0
  have hW' := hW
  obtain ⟨p, q, hA0, hV, rfl, hfz, hnd⟩ := hW
  have hA : DataW.TrodAll enc Tryd.prog W 0 (fun _ => true) true Tryd.f10.params.toList args.toList ds p := hA0
  rw [Tryd.params10] at hA hval hz
  obtain ⟨v0, v1, v2, d0, d1, d2, p0, p1, p2, _, rfl, _, _, _, _⟩ := trodAll_three hA
  obtain ⟨rfl, rfl⟩ := trodVars_none hV
  refine (law_calls (P := Tryd.prog) (n := 7) (ts := [42, 3, 9]) (by kernel_rfl) hA hz (fun j t v ht hv => hval j t v (by simpa using ht) hv) (fun g xs _ hs => body10 g xs hs)).mono fun e W' ⟨he, hb⟩ => ?_
  subst he
  exact ⟨_, rfl, post_true (P := Tryd.prog) (t := 4) Tryd.laidOut (by rw [Tryd.params10]; intro t ht; simp at ht; rcases ht with rfl | rfl | rfl <;> exact ⟨by kernel_rfl, by rw [Tryd.types_size]; decide⟩) rfl hW' (by kernel_rfl) (by kernel_rfl) rfl hb⟩

theorem row_holds : Rows.NamecNobodySaid :=
  OpenClaim.holds_of_wide 10 Tryd.f10 rfl rfl rfl rfl rfl rfl rfl ⟨rfl, rfl, rfl, rfl, rfl⟩ rfl rfl rfl rfl rfl (by kernel_rfl) Tryd.func10 (by kernel_rfl)
    (of_decide_eq_true (by kernel_rfl)) (by unfold Func.isWrapper; first | (rw [if_pos (by decide +kernel)]; kernel_rfl) | (rw [if_neg (by decide +kernel)]; exact ⟨rfl, rfl⟩))
    (fun os started H enc _ => lifted os started H enc)
set_option maxRecDepth 100000 in
theorem holds : Rows.NamecNobodyCardSaid :=
  Claim7.holds_tied_plain_at .later [] [.data, .pinned] true (true, "60b9321e7ea49626f0514f132dc7e844e6d4718cc848a6b0882966417254af35") false row_holds (fun _ h => by cases h) (by kernel_rfl) (fun _ h => by cases h) namecNobody_row_tie rfl ⟨rfl, rfl⟩ (by kernel_rfl) rfl
    (fun f fn hf hfn => by
      obtain rfl : f = 10 := Option.some.inj ((show Tryd.prog.funcNamed "parapet/parapetlaw19.NamecNobody" = some 10 by kernel_rfl).symm.trans hf) |>.symm
      obtain rfl : fn = Tryd.f10 := (Option.some.inj (Tryd.func10.symm.trans hfn)).symm
      exact ⟨by kernel_rfl, fun j t ht => by
        rw [Tryd.params10] at ht
        have hm : t ∈ [42, 3, 9] := by simpa using Array.mem_of_getElem? ht
        have hall : ([42, 3, 9].all fun u => !Tryd.prog.wantsStandIn u) = true := by kernel_rfl
        exact (show Tryd.prog.wantsStandIn t = false by simpa using List.all_eq_true.1 hall t hm)⟩)
    (by kernel_rfl)

#print axioms holds

end Go.Proofs.YthinkofjbabfbaaDoor
