/-
  parapetlaw23.ImageMakes returns true for every image: no condition.
-/
import Derived.Test.YtaofgdibpbpalaaImE
import Derived.Test.YtaofgdibpbpalaaLm6x
set_option linter.all false
namespace Go.Proofs.Ytaofgdibpbpalaa
open Go.ChangeShapes Go.WideShapes Go.ChangeAt Go.RowKit Go.Lm
set_option maxRecDepth 100000
theorem min8 : IntKind.u8.min = 0 := by kernel_rfl
theorem max8 : IntKind.u8.max = 255 := by kernel_rfl
theorem max64 : IntKind.i64.max = 9223372036854775807 := by kernel_rfl
theorem shp_bytes {g : LHeap} {n : Nat} {V : LV} (h : SlShp Try.prog g (n + 1) 5 V) : ∃ bs, Row g V byteE bs ∧ Bytes bs ∧ Capd V 1 ∧ bs.length ≤ maxLen := by
  obtain ⟨l, h1, h2, h3, h4⟩ := shp_row (E := byteE) (Q := fun x => 0 ≤ x ∧ x < 256) (fun ys hy => by
    obtain ⟨x, rfl, h1, h2⟩ := shp_ints ty5 ys hy
    rw [min8] at h1
    rw [max8] at h2
    exact ⟨x, rfl, h1, by omega⟩) h
  exact ⟨l, h1, h2, h3, h4⟩
theorem img_of {g : LHeap} {n : Nat} {SV ZV : LV} (hS : SlShp Try.prog g (n + 3) 92 SV) (hZ : SlShp Try.prog g (n + 3) 94 ZV) : ∃ ss segs zs, Img g SV ZV ss segs zs ∧ Fits segs ∧ ∀ s ∈ segs, Bytes s.2 := by
  obtain ⟨ss, h1, h2, _, _⟩ := shp_row (E := segE) (Q := fun s => s.1 < 9223372036854775808 ∧ SlShp Try.prog g (n + 1) 5 s.2) (fun ys hy => by
    obtain ⟨xss, rfl, hA⟩ := shp_fields Try.underlying92 hy
    obtain ⟨a, _, rfl, _, hi, hA⟩ := alls_int u3 hA
    obtain ⟨V, _, rfl, hV, hA⟩ := alls_slice ty.2.2 hA
    obtain rfl := alls_nil hA
    have hV : SlShp Try.prog g (n + 1) 5 V := hV
    obtain ⟨bs, hR, _⟩ := shp_bytes hV
    rw [max64] at hi
    exact ⟨(a, V), by simp [segE, hR.cell], by show a < _; omega, hV⟩) hS
  obtain ⟨zs, h3, _, _, _⟩ := shp_row (E := zE) (Q := fun _ => True) (fun ys hy => by
    obtain ⟨xss, rfl, hA⟩ := shp_fields Try.underlying94 hy
    obtain ⟨a, _, rfl, _, _, hA⟩ := alls_int u3 hA
    obtain ⟨b, _, rfl, _, _, hA⟩ := alls_int u3 hA
    obtain rfl := alls_nil hA
    exact ⟨(a, b), rfl, trivial⟩) hZ
  obtain ⟨segs, h4, h5⟩ := all2_of (R := SegR g) (S := fun s : Seg => s.1 < 9223372036854775808 ∧ Bytes s.2) fun s hs => by
    obtain ⟨bs, hR, hB, _⟩ := shp_bytes (h2 s hs).2
    exact ⟨(s.1, bs), ⟨rfl, hR⟩, (h2 s hs).1, hB⟩
  exact ⟨ss, segs, zs, ⟨h1, h4, h3⟩, ⟨fun s hs => (h5 s hs).1⟩, fun s hs => (h5 s hs).2⟩
theorem body10 (g : LHeap) (xs : List LV) (h : ShpArgs Try.prog g 6 [27] xs) : Ok Try.prog 10 xs g fun v _ => v = .bool true := by
  obtain ⟨yss, zs, rfl, hy, h⟩ := shp_struct Try.underlying27 h
  obtain rfl := shp_nil h
  obtain ⟨en, _, rfl, _, _, hy⟩ := alls_int u3 hy
  obtain ⟨SV, _, rfl, hSV, hy1⟩ := alls_slice ty.1 hy
  obtain ⟨ZV, _, rfl, hZV, hy2⟩ := alls_slice ty.2.1 hy1
  obtain rfl := alls_nil hy2
  obtain ⟨ss, segs, zs, H, hf, hB⟩ := img_of (n := 1) hSV hZV
  exact makes_any H hf hB

set_option maxRecDepth 100000 in
theorem lifted (os : Os) (started : os.Started) (H : Type) (enc : TypeId × Value → H) :
    ReturnsInHanded {} Try.checked os 10 .any (Rows.imageMakesSpec.pre6 enc Try.prog Try.f10 Rows.imageMakesRow.domain false) (Rows.imageMakesSpec.post enc Try.prog Try.f10 false true false false) := by
  refine returnsInHanded_of_change (C := Try.checked) Try.own started (by kernel_rfl) Try.func10
    (ChangeSpec.witness6 (enc := enc) (C := Try.checked) false ⟨#[], #[.agg #[.int .i64 0, .slice none 0 0, .slice none 0 0]], []⟩ 8 (by kernel_rfl) (by kernel_rfl) (by kernel_rfl) (by kernel_rfl)) ?_
  intro W base args ds gs before hval0 hW hcnd _
  have hval : ∀ (j : Nat) t v, Try.f10.params[j]? = some t → args[j]? = some v → Value.okWide Try.prog W .any base t v := hval0
  have hW' := hW
  obtain ⟨p, q, hA0, hV, rfl, hfz, hnd⟩ := hW
  have hA : DataW.TrodAll enc Try.prog W 0 (fun _ => true) true Try.f10.params.toList args.toList ds p := hA0
  rw [Try.params10] at hA hval
  obtain ⟨v0, d0, rfl, rfl, _, _⟩ := trodAll_one hA
  obtain ⟨rfl, rfl⟩ := trodVars_none hV
  refine (law_calls (P := Try.prog) (n := 6) (ts := [27]) (by kernel_rfl) hA (fun j t v ht hv => hval j t v (by simpa using ht) hv) (fun g xs _ hs => body10 g xs hs)).mono fun e W' ⟨he, hb⟩ => ?_
  subst he
  exact ⟨_, rfl, post_true (P := Try.prog) (t := 4) Try.laidOut (by rw [Try.params10]; intro t ht; simp at ht; subst ht; exact ⟨by kernel_rfl, by rw [Try.types_size]; decide⟩) rfl hW' (by kernel_rfl) (by kernel_rfl) rfl hb⟩

theorem holds : Rows.ImageMakesSaid :=
  OpenClaim.holds_of_wide 10 Try.f10 rfl rfl rfl rfl rfl rfl rfl ⟨rfl, rfl, rfl, rfl, rfl⟩ rfl rfl rfl rfl rfl (by kernel_rfl) Try.func10 (by kernel_rfl)
    (of_decide_eq_true (by kernel_rfl)) (by unfold Func.isWrapper; first | (rw [if_pos (by decide +kernel)]; kernel_rfl) | (rw [if_neg (by decide +kernel)]; exact ⟨rfl, rfl⟩))
    (fun os started H enc _ => lifted os started H enc)

#print axioms holds
end Go.Proofs.Ytaofgdibpbpalaa
