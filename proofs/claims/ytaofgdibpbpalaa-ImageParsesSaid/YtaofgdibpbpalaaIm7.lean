/-
  image's reader: take and two.
-/
import Derived.Test.YtaofgdibpbpalaaIm6
import Derived.Test.YtaofgdibpbpalaaLm6x
import Derived.Test.YtaofgdibpbpalaaImO
set_option linter.all false
namespace Go.Proofs.Ytaofgdibpbpalaa
open Go.ChangeShapes Go.WideShapes Go.ChangeAt Go.RowKit Go.Lm
set_option linter.unusedSimpArgs false
abbrev R := List Int × Bool
def rT (n : Nat) (r : R) : List Int × R := if n ≤ r.1.length then (r.1.take n, (r.1.drop n, r.2)) else (List.replicate n 0, (r.1, true))
def r2 (r : R) : Int × R := ((rT 2 r).1.getD 0 0 + 256 * (rT 2 r).1.getD 1 0, (rT 2 r).2)
structure Rd (h : LHeap) (r : Nat) (V : LV) (st : R) : Prop where
  at_ : h.get r = some (.cells [V, .bool st.2] .ex)
  row : Row h V byteE st.1
  capd : Capd V 1
  ne : V.obj ≠ some r
  lt : r < h.next
theorem sz5 : sizeL Try.prog 5 = some 1 := by kernel_rfl
theorem Rd.up {h h' : LHeap} {r : Nat} {V : LV} {st : R} (D : Rd h r V st) {F : Nat → Prop} (wf : h.Wf) (f : Fr F h h') (h1 : ¬ F r) (h2 : ∀ a, V.obj = some a → ¬ F a) : Rd h' r V st :=
  ⟨(f.eq _ D.lt h1).trans D.at_, D.row.up wf f h2, D.capd, D.ne, Nat.lt_of_lt_of_le D.lt f.le⟩
set_option maxRecDepth 10000 in
theorem mk23 {n : Nat} (hn : n ≤ 2 ^ 40) (h : LHeap) : makeSliceL Try.prog 23 (i n) (i n) h = some (.slice h.next 0 n (.ex n), h.alloc (.cells ((List.replicate n 0).map B) .ex)) := by
  have e : makeSliceL Try.prog 23 (i n) (i n) h = if 0 ≤ (n : Int) ∧ (n : Int) ≤ n ∧ (1 : Int) * n ≤ 2 ^ 48 ∧ (n : Int) < 2 ^ 62 ∧ (B 0).cells.length = 1 ∧ (B 0).cellsOK = true then
            some (.slice h.next 0 (n : Int).toNat (.ex (n : Int).toNat), h.alloc (.cells (List.replicate (n : Int).toNat (B 0).cells).flatten .ex)) else none := nr (by kernel_rfl)
  rw [e, if_pos ⟨by omega, by omega, by omega, by omega, rfl, rfl⟩]
  simp only [Int.toNat_natCast, List.map_replicate]
  congr 4
  induction n with
  | zero => rfl
  | succ n ih => rw [List.replicate_succ, List.flatten_cons, ih (by omega) (by kernel_rfl), List.replicate_succ]; rfl
theorem take_ok {h : LHeap} {r : Nat} {V : LV} {st : R} (D : Rd h r V st) (n : Nat) (hn : n ≤ 2 ^ 40) :
    Ok Try.prog 56 [.ptr r 0, i (n : Int)] h fun v h' => ∃ V', Row h' v byteE (rT n st).1 ∧ Rd h' r V' (rT n st).2 ∧ Fr (fun a => a = r) h h' ∧ (∀ a, V'.obj = some a → V.obj = some a) ∧ (∀ a, v.obj = some a → a ≠ r) := by
  refine ok56 fun wf lt => ?_
  obtain ⟨rest, bad⟩ := st
  have x0 := D.at_
  have hlen := D.row.len ty.2.2
  have cV := D.row.cell
  by_cases hlt : n ≤ rest.length
  · obtain ⟨U, eU, RU, cU, oU, _⟩ := D.row.cut3 D.capd hlt (limL V h)
    obtain ⟨V', eV, RV, cV', oV, _⟩ := D.row.cut D.capd (i := n) (j := rest.length) hlt (Nat.le_refl _) (some n) none rfl rfl
    have e1 : byteE.e = 1 := rfl
    rw [e1] at eU eV
    simp only at x0 hlen
    simp (disch := omega) only [F56, i, sh, sh2, shs, shc, shi, dec, x0, b_len, hlen, cut_t ty.2.2 sz5 Nat.one_ne_zero, eU, eV, store_o _ _ _ RV.cell]
    have nU : ∀ a, U.obj = some a → a ≠ r := fun a ha e => D.ne (e ▸ oU a ha)
    have nV : ∀ a, V'.obj = some a → a ≠ r := fun a ha e => D.ne (e ▸ oV a ha)
    have fr : Fr (fun a => a = r) h (h.set r (.cells [V', .bool bad] .ex)) := Fr.set _ rfl
    have e2 : rT n (rest, bad) = (rest.take n, (rest.drop n, bad)) := if_pos hlt
    rw [List.take_of_length_le (by simp)] at RV
    rw [e2]
    exact ⟨V', RU.up wf fr nU, ⟨get_set_eq _ _ _, RV.up wf fr nV, cV', fun h => nV r h rfl, D.lt⟩, fr, oV, nU⟩
  · simp only at x0 hlen
    simp (disch := omega) only [F56, i, sh, sh2, shs, shc, shi, dec, x0, b_len, hlen, mk23 hn]
    have e2 : rT n (rest, bad) = (List.replicate n 0, (rest, true)) := if_neg hlt
    have fr : Fr (fun a => a = r) h ((h.set r (.cells [V, .bool true] .ex)).alloc (.cells ((List.replicate n 0).map B) .ex)) := Fr.alloc' (Fr.set (F := fun a => a = r) _ rfl) _
    have nV : ∀ a, V.obj = some a → a ≠ r := fun a ha e => D.ne (e ▸ ha)
    have hlr := D.lt
    rw [e2]
    refine ⟨V, Row.of (get_alloc_eq _ _) (by simp) ?_ (by simp [byteE]), ⟨?_, D.row.up wf fr nV, D.capd, D.ne, Nat.lt_of_lt_of_le hlr fr.le⟩, fr, fun _ h => h, ?_⟩
    · have e1 : byteE.e = 1 := rfl
      rw [e1, List.drop_zero, List.take_of_length_le (by simp)]
      exact (flat1 _ _).symm
    · rw [get_alloc_ne _ _ (by simp only [LHeap.next_set]; omega), get_set_eq]
    · intro a ha
      simp only [LV.obj, Option.some.injEq, LHeap.next_set] at ha
      omega
def Bytes (bs : List Int) : Prop := ∀ x ∈ bs, 0 ≤ x ∧ x < 256
set_option maxRecDepth 10000 in
theorem conv_back (x : Int) (h : LHeap) : convLightL Try.prog 5 3 (B x) h = some (i (IntKind.i64.wrap x)) := nr (by kernel_rfl)
theorem rT_len (n : Nat) (st : R) : (rT n st).1.length = n := by
  unfold rT
  split
  · simp; omega
  · simp
theorem rT_bytes {n : Nat} {st : R} (h : Bytes st.1) : Bytes (rT n st).1 ∧ Bytes (rT n st).2.1 := by
  unfold rT
  split
  · exact ⟨fun x hx => h x (List.mem_of_mem_take hx), fun x hx => h x (List.mem_of_mem_drop hx)⟩
  · exact ⟨fun x hx => by obtain ⟨_, rfl⟩ := List.mem_replicate.1 hx; omega, h⟩
theorem two_rd {h : LHeap} {r : Nat} {V : LV} {st : R} (D : Rd h r V st) (hb : Bytes st.1) :
    Ok Try.prog 57 [.ptr r 0] h fun v h' => v = i (r2 st).1 ∧ ∃ V', Rd h' r V' (r2 st).2 ∧ Fr (fun a => a = r) h h' ∧ (∀ a, V'.obj = some a → V.obj = some a) := by
  refine ok57 fun wf lt => ?_
  simp (disch := omega) only [F57, i, sh, sh2, shs, shc, shi, dec]
  refine (take_ok D 2 (by decide)).mono ?_
  rintro U h' ⟨V', RU, D', fr, oV, nU⟩
  have hl := rT_len 2 st
  have hB := (rT_bytes (n := 2) hb).1
  obtain ⟨x, y, e⟩ : ∃ x y, (rT 2 st).1 = [x, y] := by
    match h : (rT 2 st).1, hl with
    | [x, y], _ => exact ⟨x, y, rfl⟩
  rw [e] at RU hB
  have hx := hB x (by simp)
  have hy := hB y (by simp)
  obtain ⟨x, rfl⟩ : ∃ n : Nat, x = n := ⟨x.toNat, by omega⟩
  obtain ⟨y, rfl⟩ : ∃ n : Nat, y = n := ⟨y.toNat, by omega⟩
  have hi0 := RU.ix (k := .i64) (i := 0) (by simp)
  have hi1 := RU.ix (k := .i64) (i := 1) (by simp)
  have hl0 := RU.ld1 (i := 0) (by rfl) rfl rfl
  have hl1 := RU.ld1 (i := 1) (by rfl) rfl rfl
  have e1 : byteE.e = 1 := rfl
  rw [e1] at hi0 hi1
  have hi0' : ixAddrL none 1 U (.int .i64 0) = some (U.at 1 0) := hi0
  have hi1' : ixAddrL none 1 U (.int .i64 1) = some (U.at 1 1) := hi1
  have hs : (y : Int) * 2 ^ 8 = (y : Int) * 256 := by omega
  have hr : (r2 st).1 = (x : Int) + 256 * y := by simp [r2, e]
  simp (disch := omega) only [hi0', hi1', hl0, hl1, i, sh, sh2, shs, shc, shi, dec, conv_back, binL_shl8, hs, or_bytes]
  exact ⟨by rw [hr], V', D', fr, oV⟩
end Go.Proofs.Ytaofgdibpbpalaa
