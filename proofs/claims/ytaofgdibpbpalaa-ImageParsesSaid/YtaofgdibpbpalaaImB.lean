/-
  What Parse tells of an image's own bytes; images that are the same.
-/
import Derived.Test.YtaofgdibpbpalaaImA
set_option linter.all false
namespace Go.Proofs.Ytaofgdibpbpalaa
open Go.ChangeShapes Go.WideShapes Go.ChangeAt Go.RowKit Go.Lm
set_option linter.unusedSimpArgs false
theorem r2_two {n : Int} (h0 : 0 ≤ n) (h : n < 65536) (r : List Int) (b : Bool) : r2 (two n ++ r, b) = (n, (r, b)) := by
  have e : rT 2 (two n ++ r, b) = (two n, (r, b)) := by
    unfold rT
    rw [if_pos (by simp [two])]
    simp [two]
  unfold r2
  rw [e]
  simp only [two, List.getD_cons_zero, List.getD_cons_succ, IntKind.wrap_u8]
  congr 1
  omega
theorem pairs_flat {A : Type} (f : A → Int × Int) (F : A → List Int) : ∀ (l : List A) (r : List Int) (b : Bool), (∀ a ∈ l, F a = two (f a).1 ++ two (f a).2 ∧ 0 ≤ (f a).1 ∧ (f a).1 < 65536 ∧ 0 ≤ (f a).2 ∧ (f a).2 < 65536) → pairs l.length (l.flatMap F ++ r, b) = (l.map f, (r, b))
  | [], r, b, _ => rfl
  | a :: l, r, b, h => by
    obtain ⟨e, h1, h2, h3, h4⟩ := h a (by simp)
    have ih := pairs_flat f F l r b fun a ha => h a (by simp [ha])
    simp only [List.length_cons, pairs, List.flatMap_cons, e, List.append_assoc, r2_two h1 h2, r2_two h3 h4, ih, List.map_cons]
theorem bods_flat : ∀ (l : List Seg) (r : List Int) (b : Bool), bods (l.map fun s => (s.2.length : Int)) (l.flatMap (·.2) ++ r, b) = (l.map (·.2), (r, b))
  | [], r, b => rfl
  | s :: l, r, b => by
    have ih := bods_flat l r b
    have e : rT (s.2.length : Int).toNat (s.2 ++ (l.flatMap (·.2) ++ r), b) = (s.2, (l.flatMap (·.2) ++ r, b)) := by
      unfold rT
      rw [if_pos (by simp)]
      simp
    simp only [List.map_cons, bods, List.flatMap_cons, List.append_assoc, e, ih]
structure Fits (segs : List Seg) : Prop where
  addr : ∀ s ∈ segs, s.1 < 9223372036854775808
theorem addr_small {a : Int} (h0 : 0 ≤ a) (h : a < 9223372036854775808) (hp : page a ≤ 127) : a < 65536 := by
  have e : page a = a / 256 := by
    unfold page
    rw [Int.tdiv_eq_ediv_of_nonneg h0]
    exact wrap_in (by omega) (by omega)
  rw [e] at hp
  omega
theorem makeB_len {en : Int} {segs : List Seg} {zs : List (Int × Int)} : (makeB en segs zs).length = 10 + 4 * segs.length + 4 * zs.length + (segs.flatMap (·.2)).length := by
  simp only [makeB, List.length_append, flat4 segH (fun _ => rfl), flat4 zerH (fun _ => rfl), magic, two, List.length_cons, List.length_nil]
theorem zip_self : ∀ (l : List Seg), (l.map (·.1)).zip (l.map (·.2)) = l
  | [] => rfl
  | s :: l => by simp [zip_self l]
theorem chkZ_size : ∀ (zs : List (Int × Int)) (bs : List Bool) (size : Int), chkZ zs bs size = 0 → size ≤ 16384
  | [], bs, size, h => by unfold chkZ at h; split at h; cases h; omega
  | z :: r, bs, size, h => by
    unfold chkZ at h
    split at h
    · exact chkZ_size r _ _ h
    · cases h
theorem chkS_size : ∀ (segs : List Seg) (zs : List (Int × Int)) (bs : List Bool) (size : Int), chkS segs zs bs size = 0 → size + (segs.flatMap (·.2)).length ≤ 16384
  | [], zs, bs, size, h => by have := chkZ_size zs bs size (by simpa only [chkS] using h); simpa using this
  | s :: r, zs, bs, size, h => by
    unfold chkS at h
    split at h
    · cases h
    · split at h
      · have := chkS_size r zs _ _ h
        simp only [List.flatMap_cons, List.length_append]
        omega
      · cases h
theorem makeB_short {en : Int} {segs : List Seg} {zs : List (Int × Int)} (h : checkN en segs zs = 0) : (makeB en segs zs).length ≤ 16384 := by
  rw [makeB_len]
  unfold checkN at h
  split at h
  · cases h
  · have := chkS_size _ _ _ _ h
    omega
theorem imgOf_make {en : Int} {segs : List Seg} {zs : List (Int × Int)} (h : checkN en segs zs = 0) (hf : Fits segs) (r : List Int) :
    headP (makeB en segs zs ++ r) = (en, (segs.length : Int), (zs.length : Int), (segs.flatMap segH ++ (zs.flatMap zerH ++ (segs.flatMap (·.2) ++ r)), false)) ∧ imgOf (makeB en segs zs ++ r) = (en, segs, zs, false) := by
  have F := checkN_facts h
  have e4 : ∀ l : List Int, rT 4 (magic ++ l, false) = (magic, (l, false)) := fun l => by
    unfold rT
    rw [if_pos (by simp [magic])]
    simp [magic]
  have hh : headP (makeB en segs zs ++ r) = (en, (segs.length : Int), (zs.length : Int), (segs.flatMap segH ++ (zs.flatMap zerH ++ (segs.flatMap (·.2) ++ r)), false)) := by
    have h1 := F.sl
    have h2 := F.zl
    simp only [headP, makeB, List.append_assoc, e4, r2_two F.en0 (by have := F.en1; omega), r2_two (n := (segs.length : Int)) (by omega) (by omega), r2_two (n := (zs.length : Int)) (by omega) (by omega)]
  refine ⟨hh, ?_⟩
  have hs := pairs_flat (fun s : Seg => (s.1, (s.2.length : Int))) segH segs (zs.flatMap zerH ++ (segs.flatMap (·.2) ++ r)) false fun s hs => by
    have := F.seg s hs
    exact ⟨rfl, this.1, addr_small this.1 (hf.addr s hs) this.2.2.2, by simp only; omega, by simp only; omega⟩
  have hz := pairs_flat (fun z : Int × Int => z) zerH zs (segs.flatMap (·.2) ++ r) false fun z hz => by
    have := F.zer z hz
    exact ⟨rfl, by omega, by omega, by omega, by omega⟩
  have hb := bods_flat segs r false
  simp only [imgOf, hh, Int.toNat_natCast, hs, hz, List.map_map, Function.comp_def, hb, List.map_id']
  rw [zip_self]
theorem parse_make {en : Int} {segs : List Seg} {zs : List (Int × Int)} (h : checkN en segs zs = 0) (hf : Fits segs) : parseN (makeB en segs zs) = some (en, segs, zs) := by
  have e := imgOf_make h hf []
  rw [List.append_nil] at e
  have F := checkN_facts h
  have h1 := F.sl
  have h2 := F.zl
  have h3 := makeB_short h
  unfold parseN
  rw [if_neg, if_neg, e.2]
  · rw [e.2]
    rintro (hh | hh | hh)
    · cases hh
    · exact hh h
    · exact hh rfl
  · rw [e.1]
    rintro (hh | hh | hh | hh)
    · omega
    · cases hh
    · simp only at hh; omega
    · simp only at hh; omega
end Go.Proofs.Ytaofgdibpbpalaa
