/-
  How an image, and bytes, are handed in.
-/
import Derived.Test.YtaofgdibpbpalaaImC
import Derived.Test.YtaofgdibpbpalaaImD
import Derived.Test.YtaofgdibpbpalaaLm6x
set_option linter.all false
namespace Go.Proofs.Ytaofgdibpbpalaa
open Go.ChangeShapes Go.WideShapes Go.ChangeAt Go.RowKit Go.Lm
set_option maxRecDepth 100000
theorem min8 : IntKind.u8.min = 0 := by kernel_rfl
theorem max8 : IntKind.u8.max = 255 := by kernel_rfl
theorem max64 : IntKind.i64.max = 9223372036854775807 := by kernel_rfl
theorem by5 : Try.prog.bytesOf 5 = 1 := by kernel_rfl
theorem shp_bytes {g : LHeap} {n : Nat} {V : LV} (h : SlShp Try.prog g (n + 1) 5 V) : ∃ bs, Row g V byteE bs ∧ Bytes bs ∧ Capd V 1 ∧ bs.length ≤ 2 ^ 47 := by
  obtain ⟨l, h1, h2, h3, _, h4⟩ := shp_row (E := byteE) (Q := fun x => 0 ≤ x ∧ x < 256) (fun ys hy => by
    obtain ⟨x, rfl, h1, h2⟩ := shp_ints ty5 ys hy
    rw [min8] at h1
    rw [max8] at h2
    exact ⟨x, rfl, h1, by omega⟩) h
  have e : reachBytes = 140737488351232 := rfl
  rw [by5, e] at h4
  exact ⟨l, h1, h2, h3, by omega⟩
theorem img_of {g : LHeap} {n : Nat} {SV ZV : LV} (hS : SlShp Try.prog g (n + 3) 92 SV) (hZ : SlShp Try.prog g (n + 3) 94 ZV) : ∃ ss segs zs, Img g SV ZV ss segs zs ∧ Fits segs ∧ ∀ s ∈ segs, Bytes s.2 := by
  obtain ⟨ss, h1, h2, _, _⟩ := shp_row (E := segE) (Q := fun s => s.1 < 9223372036854775808 ∧ SlShp Try.prog g (n + 1) 5 s.2) (fun ys hy => by
    obtain ⟨xss, rfl, hA⟩ := shp_fields Try.underlying92 hy
    obtain ⟨a, _, rfl, _, hi, hA⟩ := alls_int u3 hA
    obtain ⟨V, _, rfl, hV, hA⟩ := alls_slice ty.2.2 hA
    obtain rfl := alls_nil hA
    have hV : SlShp Try.prog g (n + 1) 5 V := hV
    obtain ⟨bs, hR, _⟩ := shp_bytes hV
    rw [max64] at hi
    exact ⟨(a, V), by simp [segE, hR.cell], by show a < _; omega, hV⟩) hS
  obtain ⟨zs, h3, _, _, _⟩ := shp_row (E := zE) (Q := fun _ => True) (fun ys hy => by
    obtain ⟨xss, rfl, hA⟩ := shp_fields Try.underlying94 hy
    obtain ⟨a, _, rfl, _, _, hA⟩ := alls_int u3 hA
    obtain ⟨b, _, rfl, _, _, hA⟩ := alls_int u3 hA
    obtain rfl := alls_nil hA
    exact ⟨(a, b), rfl, trivial⟩) hZ
  obtain ⟨segs, h4, h5⟩ := all2_of (R := SegR g) (S := fun s : Seg => s.1 < 9223372036854775808 ∧ Bytes s.2) fun s hs => by
    obtain ⟨bs, hR, hB, _⟩ := shp_bytes (h2 s hs).2
    exact ⟨(s.1, bs), ⟨rfl, hR⟩, (h2 s hs).1, hB⟩
  exact ⟨ss, segs, zs, ⟨h1, h4, h3⟩, ⟨fun s hs => (h5 s hs).1⟩, fun s hs => (h5 s hs).2⟩
theorem img_arg {g : LHeap} {ts : List TypeId} {xs : List LV} (h : ShpArgs Try.prog g 6 (27 :: ts) xs) : ∃ en SV ZV ss segs zs ys, xs = .agg [i en, SV, ZV] :: ys ∧ Img g SV ZV ss segs zs ∧ Fits segs ∧ (∀ s ∈ segs, Bytes s.2) ∧ ShpArgs Try.prog g 6 ts ys := by
  obtain ⟨yss, zs, rfl, hy, h'⟩ := shp_struct Try.underlying27 h
  obtain ⟨en, _, rfl, _, _, hy⟩ := alls_int u3 hy
  obtain ⟨SV, _, rfl, hSV, hy1⟩ := alls_slice ty.1 hy
  obtain ⟨ZV, _, rfl, hZV, hy2⟩ := alls_slice ty.2.1 hy1
  obtain rfl := alls_nil hy2
  obtain ⟨ss, segs, zs', H, hf, hB⟩ := img_of (n := 1) hSV hZV
  exact ⟨en, SV, ZV, ss, segs, zs', zs, rfl, H, hf, hB, h'⟩
end Go.Proofs.Ytaofgdibpbpalaa
