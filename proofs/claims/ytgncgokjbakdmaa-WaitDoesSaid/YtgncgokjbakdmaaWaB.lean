/-
  slices.Sorted(maps.Keys(m)) over integers: a new row of the map's keys, rising.
-/
import Derived.Test.YtgncgokjbakdmaaWaQ
import Derived.Test.YtgncgokjbakdmaaLm7x
import Derived.Test.YtgncgokjbakdmaaTlS
import Derived.Test.YtgncgokjbakdmaaWa1
set_option linter.all false
namespace Go.Proofs.Ytgncgokjbakdmaa
open Go.ChangeShapes Go.WideShapes Go.ChangeAt Go.RowKit Go.Lm
set_option linter.unusedSimpArgs false
set_option maxRecDepth 10000
abbrev ksF : Int → LV := fun k => .int .i64 k
section
variable {g h : LHeap} {m n c : Nat} {mp : Int → Option LV}
theorem ks_bs (h : LHeap) (x : Int) : buildSliceL Try.prog 24 1 [(0, i x)] h = some (.slice h.next 0 1 (.ex 1), h.alloc (.cells [i x] .ex)) := nr (by kernel_rfl)
theorem ks_ap {V U : LV} (hU : U.isStr = false) (g : LHeap) : builtinL Try.prog .append [24, 24] [V, U] g = appendL 1 8 V U g := append_ok (by kernel_rfl) hU g
theorem ks_ty : Try.prog.underlying 80 = some (.map 3 30) := by kernel_rfl
theorem keys_ok : Ok Try.prog 52 [.map m] g fun v h => v = .func (.func 78) [] [.ptr g.next 0] ∧ h = g.alloc (.cells [.map m] .ex) := by
  refine ok52 fun _ _ => ?_
  have hn := new_cell (v := .map m) g rfl
  simp (disch := omega) only [F52, sh, sh2, hn]
  exact ⟨trivial, trivial⟩
theorem appseq_ok (M : MapIs g m ksF mp n) (hm : m < g.next) (hc : g.get c = some (.cells [.map m] .ex)) (hcl : c < g.next) (hcm : c ≠ m) (hn : n ≤ 2 ^ 40) : Ok Try.prog 94 [.nils, .func (.func 78) [] [.ptr c 0]] g fun V h =>
    ∃ out, out.Nodup ∧ (∀ k, k ∈ out ↔ (mp k).isSome = true) ∧ out.length = n ∧ Row h V intE out ∧ Grow h V 1 ∧ Mine h V ∧ (∀ b, V.obj = some b → g.next ≤ b ∧ b < h.next) ∧ Fr noF g h := by
  refine ok94 fun wf _ => ?_
  have hnew := new_cell (v := .nils) g rfl
  simp (disch := omega) only [F94, J94_0, J94_2, sh, sh2, hnew]
  refine range_i fun r hs hp rule => ?_
  have S0 : Lm.Sep (fun b => b = m) g g [Thing.map m ksF mp n] := Lm.Sep.one M fun a ha => ⟨ha, ha ▸ hm⟩
  have S1 := (S0.new [.nils]).newLoop hs hp
  have f1 : Fr noF g ((g.alloc (.cells [.nils] .ex)).alloc (.loop r)) := (Fr.alloc _ _).alloc' _
  generalize hh1 : (g.alloc (.cells [.nils] .ex)).alloc (.loop r) = h1 at *
  show Ok Try.prog 78 [.yield (g.next + 1), .ptr c 0] h1 _
  have S1 : Lm.Sep (fun b => b = m) g h1 [Thing.map m ksF mp n, Thing.cells g.next [.nils], Thing.loop (g.next + 1) r .ready none] := S1
  refine ok78 fun wf1 _ => ?_
  have hc1 : h1.get c = some (.cells [.map m] .ex) := (f1.eq c hcl id).trans hc
  obtain ⟨o, left, er, Sr, nd, hll, hdom⟩ := S1.range 0 (m := m) rfl ks_ty
  have Sr := Sr.nils intE
  have hnx : h1.next = g.next + 2 := by rw [← hh1]; rfl
  simp (disch := omega) only [F78, J78_0, sh, sh2, hc1, er]
  refine loop_n (fun nn s h => ∃ (left : List Int) (V : LV) (out : List Int), nn = left.length ∧ left.Nodup ∧ (∀ k ∈ left, (mp k).isSome = true) ∧ out.Nodup ∧ out.length + left.length = n ∧ (∀ k, k ∈ out ↔ (mp k).isSome = true ∧ k ∉ left) ∧ Fr noF g h ∧ (∀ b, V.obj = some b → g.next ≤ b) ∧
      Lm.Sep (fun b => b = m) g h [Thing.mapIt m h1.next ksF mp n left, Thing.cells g.next [V], Thing.loop (g.next + 1) r .ready none, Thing.vec intE V out]) (n := left.length)
    ⟨left, .nils, [], rfl, nd, fun k hk => (hdom k).1 hk, List.nodup_nil, by simpa using hll, fun k => ⟨fun h => (by cases h), fun ⟨h1, h2⟩ => absurd ((hdom k).2 h1) h2⟩, f1.alloc' _, fun b hb => (by cases hb), Sr⟩ ?_
  rintro nn s h ⟨left, V, out, rfl, nd, hdm, ndo, hle, hout, fr, hnw, S⟩
  simp only [L78_1]
  refine S.next (κ := Int) (m := m) (r := h1.next) (f := ksF) (mp := mp) (n := n) (left := left) 0 rfl (fun he => ?_) fun k v left' h2 q3 q4 q5 q6 q7 S2 hen hn2 f2 => ?_
  · subst he
    simp (disch := omega) only [sh, sh2]
    refine S.leave 2 rfl (by decide) fun h3 S3 f3 n3 => ?_
    have S3 : Lm.Sep (fun b => b = m) g h3 [Thing.mapIt m h1.next ksF mp n [], Thing.cells g.next [V], Thing.vec intE V out] := S3
    have x3 := S3.cell 1 rfl
    simp (disch := omega) only [jumpM, J94_1, sh, sh2, x3]
    obtain ⟨RV, GV, MV⟩ := S3.at (T := Thing.vec intE V out) 2 rfl
    refine ⟨out, ndo, fun k => by rw [hout]; simp, by simpa using hle, RV, GV, MV, fun b hb => ⟨hnw b hb, S3.lt (T := Thing.vec intE V out) 2 rfl hb⟩, fr.trans' f3 fun b hb e => ?_⟩
    omega
  · have fr2 : Fr noF g h2 := fr.trans' f2 fun b hb e => by omega
    have S2 : Lm.Sep (fun b => b = m) g h2 [Thing.mapIt m h1.next ksF mp n left', Thing.cells g.next [V], Thing.loop (g.next + 1) r .ready none, Thing.vec intE V out] := S2
    simp (disch := omega) only [sh, sh2, hen, callV_y]
    refine rule _ _ _ _ _ (S2.loopAt 2 rfl) ⟨_, rfl, ?_⟩
    simp only [R94_3]
    refine S2.begin 2 rfl fun h3 S3 f3 n3 => ?_
    have fr3 : Fr noF g h3 := fr2.trans' f3 fun b hb e => by omega
    have S3 : Lm.Sep (fun b => b = m) g h3 [Thing.mapIt m h1.next ksF mp n left', Thing.cells g.next [V], Thing.loop (g.next + 1) r .busy none, Thing.vec intE V out] := S3
    have x3 := S3.cell 1 rfl
    have hbs := ks_bs h3 k
    obtain ⟨V', H, ea, S4, cV, n4, f4, o4⟩ := S3.push (V := V) (E := intE) (l := out) (bytes := 8) 3 rfl k (cs := [i k]) rfl (by omega)
    have ea : appendL 1 8 V (.slice h3.next 0 1 (.ex 1)) (h3.alloc (.cells [i k] .ex)) = some (V', H) := ea
    have eap := ks_ap (V := V) (U := .slice h3.next 0 1 (.ex 1)) rfl (h3.alloc (.cells [i k] .ex))
    have S4 : Lm.Sep (fun b => b = m) g H [Thing.mapIt m h1.next ksF mp n left', Thing.cells g.next [V], Thing.loop (g.next + 1) r .busy none, Thing.vec intE V' (out ++ [k])] := S4
    have x4 := S4.cell 1 rfl
    have S5 := S4.store (a := g.next) (vs := [V]) 1 rfl [V']
    have S5 : Lm.Sep (fun b => b = m) g (H.set g.next (.cells [V'] .ex)) [Thing.mapIt m h1.next ksF mp n left', Thing.cells g.next [V'], Thing.loop (g.next + 1) r .busy none, Thing.vec intE V' (out ++ [k])] := S5
    have hst : storeV 1 (.ptr g.next 0) V' H = some (H.set g.next (.cells [V'] .ex)) := by rw [store_o _ _ _ cV, x4]; rfl
    have fr4 : Fr noF g H := fr3.trans' f4 fun b hb e => by
      have := hnw b e; omega
    have fr5 : Fr noF g (H.set g.next (.cells [V'] .ex)) := fr4.set' _ (.inl (Nat.le_refl _))
    have hik : ksF k = i k := rfl
    rw [hik]
    simp (disch := omega) only [B94_3, sh, sh2, x3, hbs, eap, ea, hst, she]
    refine S5.end_ 2 rfl none fun h6 S6 f6 n6 => ?_
    have S6 : Lm.Sep (fun b => b = m) g h6 [Thing.mapIt m h1.next ksF mp n left', Thing.cells g.next [V'], Thing.loop (g.next + 1) r .ready none, Thing.vec intE V' (out ++ [k])] := S6
    have hj : (none : Option Code).isNone = true := rfl
    simp (disch := omega) only [hj, sh, sh2]
    have hni : k ∉ out := fun h => ((hout k).1 h).2 q3
    refine ⟨left'.length, by omega, left', V', out ++ [k], rfl, q7 nd, fun k' hk' => hdm k' ((q6 k').1 hk').1, ?_, by simp; omega, fun k' => ?_, fr5.trans' f6 fun b hb e => by omega, fun b hb => ?_, S6⟩
    · rw [List.nodup_append]
      exact ⟨ndo, by simp, fun x hx y hy => by simp at hy; subst hy; intro e; exact hni (e ▸ hx)⟩
    · rw [List.mem_append, hout k', q6 k']
      by_cases e : k' = k
      · subst e; simp [hdm k' q3]
      · simp [e]
    · rcases o4 b hb with h | h
      · exact hnw b h
      · have := fr3.le; omega
theorem sorted_le (l : List Int) : (sorted l).Pairwise (· ≤ ·) := by
  have h := List.pairwise_mergeSort (le := fun x y : Int => decide (x ≤ y)) (fun a b c h1 h2 => by simp at *; omega) (fun a b => by simp; omega) l
  exact h.imp fun h => by simpa using h
/-- The keys of a map, rising. -/
def KeysL (mp : Int → Option LV) (l : List Int) : Prop := l.Pairwise (· < ·) ∧ ∀ k, k ∈ l ↔ (mp k).isSome = true
theorem lt_of_le : ∀ {l : List Int}, l.Pairwise (· ≤ ·) → l.Nodup → l.Pairwise (· < ·)
  | [], _, _ => List.Pairwise.nil
  | x :: l, h, n => by
    rw [List.pairwise_cons] at h ⊢
    rw [List.nodup_cons] at n
    refine ⟨fun y hy => ?_, lt_of_le h.2 n.2⟩
    have := h.1 y hy
    have : x ≠ y := fun e => n.1 (e ▸ hy)
    omega
theorem sortedKeys_ok (M : MapIs g m ksF mp n) (hm : m < g.next) (hc : g.get c = some (.cells [.map m] .ex)) (hcl : c < g.next) (hcm : c ≠ m) (hn : n ≤ 2 ^ 40) : Ok Try.prog 51 [.func (.func 78) [] [.ptr c 0]] g fun V h =>
    ∃ out, KeysL mp out ∧ out.length = n ∧ Row h V intE out ∧ Grow h V 1 ∧ Mine h V ∧ (∀ b, V.obj = some b → g.next ≤ b ∧ b < h.next) ∧ Fr noF g h := by
  refine ok51 fun wf _ => ?_
  have hcol : Ok Try.prog 77 [.func (.func 78) [] [.ptr c 0]] g fun V h => ∃ out, out.Nodup ∧ (∀ k, k ∈ out ↔ (mp k).isSome = true) ∧ out.length = n ∧ Row h V intE out ∧ Grow h V 1 ∧ Mine h V ∧ (∀ b, V.obj = some b → g.next ≤ b ∧ b < h.next) ∧ Fr noF g h := by
    refine ok77 fun _ _ => ?_
    simp only [F77]
    exact appseq_ok M hm hc hcl hcm hn
  simp only [F51]
  refine hcol.mono ?_
  rintro V h1 ⟨out, nd, hmem, hlen, RV, GV, MV, hb, f1⟩
  refine (sort_ok sort46 RV MV (by omega)).mono ?_
  rintro _ h2 ⟨rfl, R2, M2, G2, f2, n2⟩
  refine ⟨sorted out, ⟨lt_of_le (sorted_le out) ((sorted_perm out).nodup_iff.2 nd), fun k => by rw [(sorted_perm out).mem_iff, hmem]⟩, by rw [sorted_len]; exact hlen, R2, G2 GV, M2, fun b h => ⟨(hb b h).1, by have := (hb b h).2; omega⟩, f1.trans' f2 fun b hbl e => by have := (hb b e).1; omega⟩
end
end Go.Proofs.Ytgncgokjbakdmaa
