/-
  What Parse tells of an image's bytes with more behind, or with fewer.
-/
import Derived.Test.YtaofgdibpbpalaaImB
set_option linter.all false
namespace Go.Proofs.Ytaofgdibpbpalaa
open Go.ChangeShapes Go.WideShapes Go.ChangeAt Go.RowKit Go.Lm
set_option linter.unusedSimpArgs false
theorem parse_longer {en : Int} {segs : List Seg} {zs : List (Int × Int)} (h : checkN en segs zs = 0) (hf : Fits segs) {r : List Int} (hr : r ≠ []) : parseN (makeB en segs zs ++ r) = none := by
  have e := imgOf_make h hf r
  unfold parseN
  split
  · rfl
  · rw [if_pos]
    rw [e.2]
    refine .inr (.inr fun hh => hr ?_)
    simp only at hh
    have := congrArg List.length hh
    rw [List.length_append] at this
    exact List.length_eq_zero_iff.1 (by omega)
theorem headP_bytes {bs : List Int} (hB : Bytes bs) : Bytes (headP bs).2.2.2.1 := (r2_bytes (r2_bytes (r2_bytes (rT_bytes (n := 4) (st := (bs, false)) hB).2).2.2).2.2).2.2
theorem img_fits {bs : List Int} (hB : Bytes bs) : Fits (imgOf bs).2.1 := ⟨fun s hs => by
  obtain ⟨_, h2⟩ := pairs_bytes (headP bs).2.1.toNat (headP_bytes hB)
  have h3 := (List.of_mem_zip (a := s.1) (b := s.2) hs).1
  obtain ⟨p, hp, e⟩ := List.mem_map.1 h3
  have := h2 p hp
  omega⟩
theorem parse_facts {bs : List Int} (hB : Bytes bs) {en : Int} {segs : List Seg} {zs : List (Int × Int)} (h : parseN bs = some (en, segs, zs)) : checkN en segs zs = 0 ∧ makeB en segs zs = bs ∧ Fits segs := by
  unfold parseN at h
  split at h
  · cases h
  · split at h
    · cases h
    · rename_i h2
      have hf := img_fits hB
      cases h
      exact ⟨Classical.byContradiction fun hh => h2 (.inr (.inl hh)), Classical.byContradiction fun hh => h2 (.inr (.inr hh)), hf⟩
theorem parse_shorter {en : Int} {segs : List Seg} {zs : List (Int × Int)} (h : checkN en segs zs = 0) (hf : Fits segs) (hB : Bytes (makeB en segs zs)) {n : Nat} (hn : n < (makeB en segs zs).length) : parseN ((makeB en segs zs).take n) = none := by
  cases hp : parseN ((makeB en segs zs).take n) with
  | none => rfl
  | some x =>
    obtain ⟨en', segs', zs'⟩ := x
    obtain ⟨c', m', f'⟩ := parse_facts (fun x hx => hB x (List.mem_of_mem_take hx)) hp
    have e := imgOf_make c' f' ((makeB en segs zs).drop n)
    rw [m', List.take_append_drop] at e
    have e2 := imgOf_make h hf []
    rw [List.append_nil] at e2
    have e3 := e.2.symm.trans e2.2
    cases e3
    have := congrArg List.length m'
    rw [List.length_take] at this
    omega
end Go.Proofs.Ytaofgdibpbpalaa
