/-
  parapetlaw19.NamecReaders returns true for every row of calls: no condition but the tied variables' (the card).
-/
import Derived.Test.YthinkofjbabfbaaDoorNcM
import Derived.Test.YthinkofjbabfbaaDoorLm6x
import Derived.Test.YthinkofjbabfbaaDoorCards
import Derived.Test.YthinkofjbabfbaaDoorTie
import Derived.ProofKit
import Derived.Lay
import Derived.LaidOnce
import Derived.SevenTiedAt
import Derived.SizedLaws
set_option linter.all false
namespace Go.Proofs.YthinkofjbabfbaaDoor
open Go.ChangeShapes Go.WideShapes Go.ChangeAt Go.RowKit Go.Lm
set_option maxRecDepth 100000
theorem by44 : Tryd.prog.bytesOf 44 = 40 := by kernel_rfl
theorem shp_ops {g : LHeap} {n : Nat} {V : LV} (h : SlShp Tryd.prog g (n + 4) 44 V) : ∃ ops, Row g V opE ops ∧ ops.length * 40 ≤ 140737488351232 := by
  obtain ⟨ops, h1, h2, _, _, h4⟩ := shp_row (E := opE) (Q := fun _ => True) (fun ys hy => by
    obtain ⟨xss, rfl, hA⟩ := shp_fields Tryd.underlying44 hy
    obtain ⟨a, _, rfl, _, _, hA⟩ := alls_int u3 hA
    obtain ⟨kss, _, rfl, hK, hB⟩ := alls_struct Tryd.underlying42 hA
    obtain ⟨k1, _, rfl, _, _, hK⟩ := alls_int u3 hK
    obtain ⟨s, _, rfl, _, hK⟩ := alls_str u9 hK
    obtain rfl := alls_nil hK
    obtain ⟨m, _, rfl, _, _, hD⟩ := alls_int u3 hB
    obtain rfl := alls_nil hD
    exact ⟨⟨a, (k1, s), m⟩, rfl, trivial⟩) h
  rw [by44] at h4
  exact ⟨ops, h1, h4⟩
theorem body5 (g : LHeap) (xs : List LV) (h : ShpArgs Tryd.prog g 7 [29] xs) : Ok Tryd.prog 5 xs g fun v _ => v = .bool true := by
  obtain ⟨V, ys, rfl, hV, h⟩ := shp_slice ty29 h
  obtain ⟨ops, R, hl⟩ := shp_ops hV
  obtain rfl := shp_nil h
  exact readers_any R (by omega)

abbrev laidV : List (String × DataW Unit) := [("unicode/utf8.acceptRanges", Rows.laid_unicode_utf8_acceptRanges), ("unicode/utf8.first", Rows.laid_unicode_utf8_first)]
set_option maxRecDepth 100000 in
theorem lifted (os : Os) (started : os.Started) (H : Type) (enc : TypeId × Value → H) :
    ReturnsInHanded {} Tryd.checked os 5 .any (fun w args => (Rows.namecReadersSpec.pre enc Tryd.prog Tryd.f5 [] false w args ∧ laidMetH Tryd.prog laidV w) ∧ sizedMet enc Tryd.prog Tryd.f5 (OpenSpec.ofChange Rows.namecReadersSpec) false w args)
      (Rows.namecReadersSpec.post enc Tryd.prog Tryd.f5 false true false false) := by
  refine returnsInHanded_of_change_and (C := Tryd.checked) (X := fun w _ => laidMetH Tryd.prog laidV w) (fun _ _ _ hh h => h.of_heap hh) Tryd.own started (by kernel_rfl) Tryd.func5
    (ChangeSpec.witness_shaped (enc := enc) (C := Tryd.checked) (os := os) (X := fun w _ => laidMetH Tryd.prog laidV w) false (World.laidAll Tryd.prog os laidV) #[.slice none 0 0] 8 (World.laidAll_os _ _ _)
      (World.shaped_of_ZipB (by kernel_rfl) (by kernel_rfl)) (by kernel_rfl) (by kernel_rfl) (by kernel_rfl)
      (by rw [MakeChecks.laidMetH_plain _ _ _ (by kernel_rfl)]; exact laidMet_laidAll _ (by kernel_rfl) (by kernel_rfl))) ?_
  intro W base args ds gs before hval0 hW _ hz0 hL _
  have hz : (DataW.weightsEach Tryd.prog (Tryd.f5.params.toList ++ []) (ds ++ gs)).all (· ≤ reachBytes) = true := hz0
  have hval : ∀ (j : Nat) t v, Tryd.f5.params[j]? = some t → args[j]? = some v → Value.okWide Tryd.prog W .any base t v := hval0
  have hW' := hW
  obtain ⟨p, q, hA0, hV, rfl, hfz, hnd⟩ := hW
  have hA : DataW.TrodAll enc Tryd.prog W 0 (fun _ => true) true Tryd.f5.params.toList args.toList ds p := hA0
  rw [Tryd.params5] at hA hval hz
  obtain ⟨v0, d0, rfl, rfl, _, _⟩ := trodAll_one hA
  obtain ⟨rfl, rfl⟩ := trodVars_none hV
  refine (law_calls (P := Tryd.prog) (n := 7) (ts := [29]) (by kernel_rfl) hA hz (fun j t v ht hv => hval j t v (by simpa using ht) hv) (fun g xs _ hs => body5 g xs hs)).mono fun e W' ⟨he, hb⟩ => ?_
  subst he
  exact ⟨_, rfl, post_true (P := Tryd.prog) (t := 4) Tryd.laidOut (by rw [Tryd.params5]; intro t ht; simp at ht; subst ht; exact ⟨by kernel_rfl, by rw [Tryd.types_size]; decide⟩) rfl hW' (by kernel_rfl) (by kernel_rfl) rfl hb⟩

theorem row_holds : Rows.NamecReadersSaid :=
  OpenClaim.holds_of_wide 5 Tryd.f5 rfl rfl rfl rfl rfl rfl rfl ⟨rfl, rfl, rfl, rfl, rfl⟩ rfl rfl rfl rfl rfl (by kernel_rfl) Tryd.func5 (by kernel_rfl)
    (of_decide_eq_true (by kernel_rfl)) (by unfold Func.isWrapper; first | (rw [if_pos (by decide +kernel)]; kernel_rfl) | (rw [if_neg (by decide +kernel)]; exact ⟨rfl, rfl⟩))
    (fun os started H enc _ => lifted os started H enc)
set_option maxRecDepth 100000 in
theorem holds : Rows.NamecReadersCardSaid :=
  Claim7.holds_tied_plain_at .later [] [.data, .pinned] true (true, "60b9321e7ea49626f0514f132dc7e844e6d4718cc848a6b0882966417254af35") false row_holds (fun _ h => by cases h) (by kernel_rfl) (fun _ h => by cases h) namecReaders_row_tie rfl ⟨rfl, rfl⟩ (by kernel_rfl) rfl
    (fun f fn hf hfn => by
      obtain rfl : f = 5 := Option.some.inj ((show Tryd.prog.funcNamed "parapet/parapetlaw19.NamecReaders" = some 5 by kernel_rfl).symm.trans hf) |>.symm
      obtain rfl : fn = Tryd.f5 := (Option.some.inj (Tryd.func5.symm.trans hfn)).symm
      exact ⟨by kernel_rfl, fun j t ht => by
        rw [Tryd.params5] at ht
        have hm : t ∈ [29] := by simpa using Array.mem_of_getElem? ht
        have hall : ([29].all fun u => !Tryd.prog.wantsStandIn u) = true := by kernel_rfl
        exact (show Tryd.prog.wantsStandIn t = false by simpa using List.all_eq_true.1 hall t hm)⟩)
    (by kernel_rfl)

#print axioms holds

end Go.Proofs.YthinkofjbabfbaaDoor
