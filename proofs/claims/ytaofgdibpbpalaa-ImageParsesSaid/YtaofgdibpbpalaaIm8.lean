/-
  image.Parse: what it reads.
-/
import Derived.Test.YtaofgdibpbpalaaIm7
set_option linter.all false
namespace Go.Proofs.Ytaofgdibpbpalaa
open Go.ChangeShapes Go.WideShapes Go.ChangeAt Go.RowKit Go.Lm
set_option linter.unusedSimpArgs false
def pairs : Nat → R → List (Int × Int) × R
  | 0, r => ([], r)
  | n + 1, r => (((r2 r).1, (r2 (r2 r).2).1) :: (pairs n (r2 (r2 r).2).2).1, (pairs n (r2 (r2 r).2).2).2)
def bods : List Int → R → List (List Int) × R
  | [], r => ([], r)
  | n :: ns, r => ((rT n.toNat r).1 :: (bods ns (rT n.toNat r).2).1, (bods ns (rT n.toNat r).2).2)
/-- The header: entry, how many segments, how many zeros, the reader behind it. -/
def headP (bs : List Int) : Int × Int × Int × R :=
  ((r2 (rT 4 (bs, false)).2).1, (r2 (r2 (rT 4 (bs, false)).2).2).1, (r2 (r2 (r2 (rT 4 (bs, false)).2).2).2).1, (r2 (r2 (r2 (rT 4 (bs, false)).2).2).2).2)
def imgOf (bs : List Int) : Int × List Seg × List (Int × Int) × Bool :=
  let H := headP bs
  let ps := pairs H.2.1.toNat H.2.2.2
  let zs := pairs H.2.2.1.toNat ps.2
  let bo := bods (ps.1.map (·.2)) zs.2
  (H.1, (ps.1.map (·.1)).zip bo.1, zs.1, bo.2.2)
def parseN (bs : List Int) : Option (Int × List Seg × List (Int × Int)) :=
  if 16384 < bs.length ∨ (headP bs).2.2.2.2 = true ∨ 16 < (headP bs).2.1 ∨ 16 < (headP bs).2.2.1 then none else
  if (imgOf bs).2.2.2 = true ∨ checkN (imgOf bs).1 (imgOf bs).2.1 (imgOf bs).2.2.1 ≠ 0 ∨ makeB (imgOf bs).1 (imgOf bs).2.1 (imgOf bs).2.2.1 ≠ bs then none
  else some ((imgOf bs).1, (imgOf bs).2.1, (imgOf bs).2.2.1)
theorem r2_bytes {st : R} (h : Bytes st.1) : 0 ≤ (r2 st).1 ∧ (r2 st).1 < 65536 ∧ Bytes (r2 st).2.1 := by
  have hb := rT_bytes (n := 2) h
  have hl := rT_len 2 st
  refine ⟨?_, ?_, hb.2⟩
  all_goals
    match e : (rT 2 st).1, hl with
    | [x, y], _ =>
      rw [e] at hb
      have hx := hb.1 x (by simp)
      have hy := hb.1 y (by simp)
      simp only [r2, e, List.getD_cons_zero, List.getD_cons_succ]
      omega
theorem pairs_bytes : ∀ (n : Nat) {st : R}, Bytes st.1 → Bytes (pairs n st).2.1 ∧ ∀ p ∈ (pairs n st).1, 0 ≤ p.1 ∧ p.1 < 65536 ∧ 0 ≤ p.2 ∧ p.2 < 65536
  | 0, st, h => ⟨h, fun p hp => by cases hp⟩
  | n + 1, st, h => by
    obtain ⟨a1, a2, a3⟩ := r2_bytes h
    obtain ⟨b1, b2, b3⟩ := r2_bytes a3
    obtain ⟨h1, h2⟩ := pairs_bytes n b3
    refine ⟨h1, fun p hp => ?_⟩
    rcases List.mem_cons.1 hp with rfl | hp
    · exact ⟨a1, a2, b1, b2⟩
    · exact h2 p hp
theorem pairs_len : ∀ (n : Nat) (st : R), (pairs n st).1.length = n
  | 0, _ => rfl
  | n + 1, st => by simp [pairs, pairs_len n]
theorem bods_len : ∀ (l : List Int) (st : R), (bods l st).1.length = l.length
  | [], _ => rfl
  | n :: l, st => by simp [bods, bods_len l]
theorem agg27 : aggN Try.prog 27 = some (some 3) := by kernel_rfl
theorem ret14 (a : Nat) (v : LV) (h : LHeap) (K : LV → LHeap → Prop) : retC Try.prog [.cell 2 27, .tmp 3] [(2, .ptr a 0), (3, v)] h K = vK (loadV (some 3) (.ptr a 0) h) fun x => K (.tuple [x, v]) h := by
  have e : resL Try.prog (fun i => (List.lookup i [(2, LV.ptr a 0), (3, v)]).getD undefL) h [.cell 2 27, .tmp 3] = (loadV (some 3) (.ptr a 0) h).map fun x => [x, v] := by
    simp only [resL, loadT, agg27, List.lookup]
    simp
    cases loadV (some 3) (.ptr a 0) h <;> rfl
  unfold retC
  rw [e]
  cases loadV (some 3) (.ptr a 0) h <;> rfl
set_option maxRecDepth 10000 in
theorem bl27 (h : LHeap) : buildL Try.prog 27 [] = some (.agg [i 0, .nils, .nils]) := nr (by kernel_rfl)
set_option maxRecDepth 10000 in
theorem bl27_1 (x : Int) : buildL Try.prog 27 [(0, i x)] = some (.agg [i x, .nils, .nils]) := nr (by kernel_rfl)
set_option maxRecDepth 10000 in
theorem bl92 (x : Int) : buildL Try.prog 92 [(0, i x)] = some (.agg [i x, .nils]) := nr (by kernel_rfl)
set_option maxRecDepth 10000 in
theorem bl94 (x y : Int) : buildL Try.prog 94 [(0, i x), (1, i y)] = some (.agg [i x, i y]) := nr (by kernel_rfl)
set_option maxRecDepth 10000 in
theorem bs24 (x : Int) (h : LHeap) : buildSliceL Try.prog 24 1 [(0, .agg [i x, .nils])] h = some (.slice h.next 0 1 (.ex 1), h.alloc (.cells [i x, .nils] .ex)) := nr (by kernel_rfl)
set_option maxRecDepth 10000 in
theorem bs25 (x y : Int) (h : LHeap) : buildSliceL Try.prog 25 1 [(0, .agg [i x, i y])] h = some (.slice h.next 0 1 (.ex 1), h.alloc (.cells [i x, i y] .ex)) := nr (by kernel_rfl)
set_option maxRecDepth 10000 in
theorem bs51 (x : Int) (h : LHeap) : buildSliceL Try.prog 51 1 [(0, i x)] h = some (.slice h.next 0 1 (.ex 1), h.alloc (.cells [i x] .ex)) := nr (by kernel_rfl)
set_option maxRecDepth 10000 in
theorem bs23_0 (h : LHeap) : buildSliceL Try.prog 23 0 [] h = some (.slice h.next 0 0 (.ex 0), h.alloc (.cells [] .ex)) := nr (by kernel_rfl)
theorem ap24 {V : LV} (a o l : Nat) (c : Cap) (g : LHeap) : builtinL Try.prog .append [24, 24] [V, .slice a o l c] g = appendL 2 32 V (.slice a o l c) g := append_ok (by kernel_rfl) rfl g
theorem ap25 {V : LV} (a o l : Nat) (c : Cap) (g : LHeap) : builtinL Try.prog .append [25, 25] [V, .slice a o l c] g = appendL 2 16 V (.slice a o l c) g := append_ok (by kernel_rfl) rfl g
theorem ap51 {V : LV} (a o l : Nat) (c : Cap) (g : LHeap) : builtinL Try.prog .append [51, 51] [V, .slice a o l c] g = appendL 1 8 V (.slice a o l c) g := append_ok (by kernel_rfl) rfl g
set_option maxRecDepth 10000 in
theorem bl89 (V : LV) (hc : V.cells = [V]) : buildL Try.prog 89 [(0, V)] = some (.agg [V, .bool false]) := by
  have e : buildL Try.prog 89 [(0, V)] = (if V.cells.length ≠ 1 ∨ 0 + 1 > 2 then none else some (splice [.nils, .bool false] 0 V.cells)).map .agg := by kernel_rfl
  rw [e, hc]
  rfl
end Go.Proofs.Ytaofgdibpbpalaa
