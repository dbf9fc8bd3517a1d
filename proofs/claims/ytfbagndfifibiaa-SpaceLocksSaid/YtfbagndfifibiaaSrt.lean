/-
  slices.Sort of integers on the logical machine, out of the shelf's contract.
-/
import Derived.Test.YtfbagndfifibiaaLm6x
import Derived.Shelf.Sort.Plain
import Derived.Shelf.Slices.In.SortNone
set_option linter.all false
namespace Go.Lm
open Go.Sort
set_option linter.unusedSimpArgs false
variable {P : Program} {W : World} {keep : Nat → Prop} {ρ : Ren} {g : LHeap} {w : World}
/-- New blocks at the heap's end. -/
theorem Rel.grow (h : Rel W keep ρ g w) (os : Array Obj) : Rel W keep ρ g (Go.Sort.grow w os) := by
  have e : ∀ b, b < w.heap.size → (Go.Sort.grow w os).heap[b]? = w.heap[b]? := fun b hb => heap_grow_old w os hb
  exact ⟨h.os, h.tape, h.output, by simp only [size_grow]; exact Nat.le_trans h.size (Nat.le_add_right _ _), fun b hb => ⟨(h.kept b hb).1, (e b (Nat.lt_of_lt_of_le (h.kept b hb).1 h.size)).trans (h.kept b hb).2⟩,
    fun i o hi => ⟨(h.obj i o hi).1, (h.obj i o hi).2.heap (e _ (h.obj i o hi).2.lt)⟩, h.inj, h.mine⟩
/-- What slices.Sort does, as the shelf tells it. -/
structure SortSaid (P : Program) (f : FuncId) : Prop where
  is : ∃ fn c, P.funcs[f]? = some fn ∧ fn.body = some c ∧ (fn.name == "runtime.NumGoroutine") = false
  none : ∀ (p : Option Addr) (cap : Nat) (w : World), Calls P f #[.slice p 0 cap] w fun e w' => e = .returned (.tuple #[]) ∧ w' = w
  some : ∀ (blk off cap : Nat) (zs : List Int) (w : World), Holds (Value.int .i64) w blk off zs.toArray → blk < w.heap.size → zs.length < 4611686018427387904 →
    Calls P f #[.slice (some ⟨blk, off, .none⟩) zs.length cap] w fun e w' => e = .returned (.tuple #[]) ∧ ∃ n os, w' = Go.Sort.grow (putRow (Value.int .i64) (Go.Sort.ahead w n) blk off (zs.mergeSort fun x y => decide (x ≤ y)).toArray) os
def sorted (l : List Int) : List Int := l.mergeSort fun x y => decide (x ≤ y)
theorem sorted_len (l : List Int) : (sorted l).length = l.length := List.length_mergeSort _
theorem sorted_perm (l : List Int) : (sorted l).Perm l := List.mergeSort_perm _ _
theorem flat_int (l : List Int) : l.flatMap intE.f = l.map fun n => LV.int .i64 n := flat1 _ l
theorem modify_set {α : Type} (a : Array α) (i : Nat) (f : α → α) {x : α} (h : a[i]? = some x) : a.modify i f = a.setIfInBounds i (f x) := by
  apply Array.ext_getElem?
  intro k
  obtain ⟨hlt, rfl⟩ := Array.getElem?_eq_some_iff.1 h
  simp only [Array.getElem?_modify, Array.getElem?_setIfInBounds]
  by_cases hk : i = k
  · subst hk; simp [hlt]
  · simp [hk]
theorem sort_ok {f : FuncId} (hS : SortSaid P f) {V : LV} {l : List Int} (R : Row g V intE l) (M : Mine g V) (hl : l.length < 4611686018427387904) :
    Ok P f [V] g fun v h => v = .tuple [] ∧ Row h V intE (sorted l) ∧ Mine h V ∧ (Grow g V 1 → Grow h V 1) ∧ Fr (fun a => V.obj = some a) g h ∧ h.next = g.next := by
  refine ⟨hS.is, fun W keep ρ w hr ha => ?_⟩
  by_cases h0 : l = []
  · subst h0
    have hv : ∃ p cap, V.toV ρ = .slice p 0 cap := by
      rcases R with ⟨_, rfl | ⟨a, off, alt, z, b, rfl⟩⟩ | ⟨a, off, cap, vs, own, rfl, _⟩
      · exact ⟨_, _, rfl⟩
      · exact ⟨_, _, rfl⟩
      · cases cap <;> exact ⟨_, _, rfl⟩
    obtain ⟨p, cap, hv⟩ := hv
    have e : (toVs ρ [V]).toArray = #[.slice p 0 cap] := by simp [toVs, hv]
    rw [e]
    refine (hS.none p cap w).mono ?_
    rintro e w' ⟨rfl, rfl⟩
    exact ⟨.tuple [], g, ρ, by simp [LV.toV, toVs], Post.same hr (by simp [LV.ok, oks]), rfl, (by simpa [sorted] using R), M, id, Fr.refl _ _, rfl⟩
  · rcases R with ⟨h, _⟩ | ⟨a, off, cap, vs, own, rfl, hg, hv, hfit⟩
    · exact absurd h h0
    obtain ⟨vs', own', hg', ho⟩ := M
    rw [hg] at hg'
    cases hg'
    have e1 : intE.e = 1 := rfl
    rw [e1, Nat.mul_one] at hfit hv
    rw [flat_int] at hv
    obtain ⟨hlt, hoks, hcell, C, ty, fz, hC, hsz, hcells, hfz, hop⟩ := hr.obj a _ hg
    have hval : ∃ cap', (LV.slice a off l.length cap).toV ρ = .slice (some ⟨ρ.blk a, ρ.base a + off, none⟩) l.length cap' := by cases cap <;> exact ⟨_, rfl⟩
    obtain ⟨cap', hval⟩ := hval
    have e : (toVs ρ [LV.slice a off l.length cap]).toArray = #[.slice (some ⟨ρ.blk a, ρ.base a + off, none⟩) l.length cap'] := by simp [toVs, hval]
    rw [e]
    have hat : ∀ j (hj : j < l.length), vs[off + j]? = some (.int .i64 l[j]) := fun j hj => by
      have h1 : ((vs.drop off).take l.length)[j]? = some (.int .i64 l[j]) := by rw [hv, List.getElem?_map, List.getElem?_eq_getElem hj]; rfl
      rw [List.getElem?_take, if_pos hj, List.getElem?_drop] at h1
      exact h1
    have hH : Holds (Value.int .i64) w (ρ.blk a) (ρ.base a + off) l.toArray := fun j hj => by
      have hj : j < l.length := by simpa using hj
      have hin : ρ.base a + off + j < C.size := by omega
      refine ⟨?_, ?_⟩
      · unfold World.cell?
        simp only [hC, Option.isSome_none, Bool.false_eq_true, if_false]
        have := hcells (off + j) _ (hat j hj)
        rw [Nat.add_assoc, this]
        simp [LV.toV, hj]
      · unfold World.frozen?
        obtain ⟨lo, hi⟩ := fz
        simp only [hC]
        have := hfz ho (ρ.base a + off + j) hin
        simp only at this
        simp only [Bool.and_eq_false_iff, decide_eq_false_iff_not]
        omega
    have hblk : ρ.blk a < w.heap.size := (Array.getElem?_eq_some_iff.1 hC).1
    refine (hS.some (ρ.blk a) (ρ.base a + off) cap' l w hH hblk hl).mono ?_
    rintro e w' ⟨rfl, n, os, rfl⟩
    have hsl := sorted_len l
    let S := sorted l
    have hnew : (S.map fun n => LV.int .i64 n).length = l.length := by simp [S, hsl]
    let ws := splice vs off (S.map fun n => LV.int .i64 n)
    have hwl : ws.length = vs.length := splice_len (by rw [hnew]; exact hfit)
    have hws : ∀ j v, ws[j]? = some v → (∃ hj : off ≤ j ∧ j < off + l.length, v = .int .i64 (S[j - off]'(by show j - off < (sorted l).length; rw [hsl]; omega))) ∨ (¬ (off ≤ j ∧ j < off + l.length) ∧ vs[j]? = some v) := by
      intro j v hj
      simp only [ws, splice] at hj
      by_cases h1 : j < off
      · rw [List.append_assoc, List.getElem?_append_left (by rw [List.length_take]; omega), List.getElem?_take, if_pos h1] at hj
        exact .inr ⟨by omega, hj⟩
      · rw [List.append_assoc, List.getElem?_append_right (by rw [List.length_take]; omega), List.length_take, Nat.min_eq_left (by omega)] at hj
        by_cases h2 : j < off + l.length
        · rw [List.getElem?_append_left (by rw [hnew]; omega), List.getElem?_map] at hj
          obtain ⟨x, hx, rfl⟩ := Option.map_eq_some_iff.1 hj
          refine .inl ⟨⟨by omega, h2⟩, ?_⟩
          obtain ⟨hb, he⟩ := List.getElem?_eq_some_iff.1 hx
          rw [he]
        · rw [List.getElem?_append_right (by rw [hnew]; omega), hnew, List.getElem?_drop] at hj
          refine .inr ⟨by omega, ?_⟩
          rw [← hj]
          congr 1
          omega
    have hput : putRow (Value.int .i64) (Go.Sort.ahead w n) (ρ.blk a) (ρ.base a + off) S.toArray = { (Go.Sort.ahead w n) with heap := (Go.Sort.ahead w n).heap.setIfInBounds (ρ.blk a) (.cells (putCells (Value.int .i64) (ρ.base a + off) S.toArray C) ty fz) } := by
      unfold putRow mapBlock
      congr 1
      exact modify_set _ _ _ hC
    have hrel : Rel W keep ρ (g.set a (.cells ws own)) (putRow (Value.int .i64) (Go.Sort.ahead w n) (ρ.blk a) (ρ.base a + off) S.toArray) := by
      rw [hput]
      refine (hr.drawn (n := w.drawn + n)).turn hg (by cases own <;> first | rfl | exact absurd rfl ho) ?_
      refine ⟨(oks_iff _ _ _).2 fun v hv => ?_, fun v hv => ?_, putCells (Value.int .i64) (ρ.base a + off) S.toArray C, ty, fz, ?_, ?_, fun j v hj => ?_, fun h o ho' => hfz h o (by simpa [putCells] using ho'), fun h => by simpa [putCells] using hop h⟩
      · obtain ⟨j, hj⟩ := List.getElem?_of_mem hv
        rcases hws j v hj with ⟨_, rfl⟩ | ⟨_, h2⟩
        · simp [LV.ok]
        · exact (oks_iff _ _ _).1 hoks v (List.mem_of_getElem? h2)
      · obtain ⟨j, hj⟩ := List.getElem?_of_mem hv
        rcases hws j v hj with ⟨_, rfl⟩ | ⟨_, h2⟩
        · rfl
        · exact hcell v (List.mem_of_getElem? h2)
      · simp only [Array.getElem?_setIfInBounds]
        rw [if_pos trivial, if_pos hblk]
      · rw [hwl]; simpa [putCells] using hsz
      · have hjl : j < vs.length := by rw [← hwl]; exact (List.getElem?_eq_some_iff.1 hj).1
        have hin : ρ.base a + j < C.size := by omega
        simp only [putCells, Array.getElem?_mapIdx]
        rw [Array.getElem?_eq_getElem hin, Option.map_some]
        have hSl : S.toArray.size = l.length := by simp [S, hsl]
        rcases hws j v hj with ⟨h1, rfl⟩ | ⟨h1, h2⟩
        · rw [if_pos (by rw [hSl]; omega)]
          have e2 : ρ.base a + j - (ρ.base a + off) = j - off := by omega
          rw [e2, getElem!_pos _ _ (by rw [hSl]; omega)]
          simp [LV.toV]
        · rw [if_neg (by rw [hSl]; omega)]
          have := hcells j v h2
          rw [Array.getElem?_eq_getElem hin] at this
          exact this
    refine ⟨.tuple [], g.set a (.cells ws own), ρ, by simp [LV.toV, toVs], ⟨Ren.Ext.refl _ _, hrel.grow os, by simp [LV.ok, oks], Nat.le_refl _⟩, rfl, ?_, ⟨ws, own, get_set_eq _ _ _, ho⟩, fun hG => ?_, Fr.set _ rfl, rfl⟩
    · refine Row.of (get_set_eq _ _ _) hsl.symm ?_ ?_
      · rw [flat_int, e1, Nat.mul_one]
        have h1 := splice_take (vs := vs) (new := S.map fun n => LV.int .i64 n) (off := off) (o := off) (n := 0) (by rw [hnew]; exact hfit) (by omega)
        rw [Nat.zero_add, hnew, List.take_zero, List.nil_append] at h1
        rw [hsl]
        exact h1
      · rw [hsl, hwl, e1, Nat.mul_one]; exact hfit
    · cases cap with
      | ex c =>
        refine ⟨hG.1, fun hn => ?_⟩
        obtain ⟨vs2, own2, h1, h2, h3⟩ := hG.2 hn
        rw [hg] at h1
        cases h1
        exact ⟨ws, own, get_set_eq _ _ _, ho, by rw [hwl]; exact h3⟩
      | op e' =>
        obtain ⟨h1, vs2, h2⟩ := hG
        rw [hg] at h2
        cases h2
        exact ⟨h1, ws, get_set_eq _ _ _⟩
end Go.Lm
