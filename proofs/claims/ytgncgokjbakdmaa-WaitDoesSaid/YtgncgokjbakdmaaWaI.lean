/-
  waitq's reference: On, All, Sleepers.
-/
import Derived.Test.YtgncgokjbakdmaaWaG
set_option linter.all false
namespace Go.Proofs.Ytgncgokjbakdmaa
open Go.ChangeShapes Go.WideShapes Go.ChangeAt Go.RowKit Go.Lm
set_option linter.unusedSimpArgs false
set_option linter.unusedVariables false
set_option maxRecDepth 10000
def seatE : Enc Seat := ⟨fun p => [i p.1, i p.2.1.1, i p.2.1.2.1, i p.2.1.2.2, i p.2.2], 5, fun _ => rfl, fun p v h => by
  simp only [List.mem_cons, List.not_mem_nil, or_false] at h
  rcases h with rfl | rfl | rfl | rfl | rfl <;> rfl, by decide⟩
theorem ty73 : Try.prog.underlying 73 = some (.slice 78) := by kernel_rfl
theorem ap73 {V U : LV} (hU : U.isStr = false) (g : LHeap) : builtinL Try.prog .append [73, 73] [V, U] g = appendL 5 40 V U g := append_ok (by kernel_rfl) hU g
theorem bs73_0 (h : LHeap) : buildSliceL Try.prog 73 0 [] h = some (.slice h.next 0 0 (.ex 0), h.alloc (.cells [] .ex)) := nr (by kernel_rfl)
theorem bs73_1 (h : LHeap) (a b c d e : Int) : buildSliceL Try.prog 73 1 [(0, .agg [i a, i b, i c, i d, i e])] h = some (.slice h.next 0 1 (.ex 1), h.alloc (.cells [i a, i b, i c, i d, i e] .ex)) := nr (by kernel_rfl)
theorem sz73 : sizeL Try.prog 78 = some 5 := by kernel_rfl
theorem new_st {X : Type} (E : Enc X) (zs : List LV) (hz : zs.length = E.e) (hc : zs.all LV.cell = true) (h : LHeap) (x : X) : ∃ N, newL (.agg zs) h = some (.ptr h.next 0, N) ∧ storeV E.e (.ptr h.next 0) (.agg (E.f x)) N = some (h.alloc (.cells (E.f x) .ex)) := by
  refine ⟨_, new_agg _ _ (List.all_eq_true.1 hc), ?_⟩
  rw [store_agg']
  simp only [storeCellsL, get_alloc_eq]
  rw [if_pos ⟨by decide, by rw [E.len, Nat.zero_add, hz]; exact Nat.le_refl _, List.all_eq_true.2 fun v hv => E.cell x v hv⟩, alloc_set']
  have e1 : splice zs 0 (E.f x) = E.f x := by
    unfold splice
    rw [List.take_zero, List.nil_append, List.drop_eq_nil_of_le (by rw [E.len, hz]; omega), List.append_nil]
  rw [e1]
theorem new_st5 (h : LHeap) (p : Seat) : ∃ N, newL (.agg [.int .i64 0, .int .i64 0, .int .i64 0, .int .i64 0, .int .i64 0]) h = some (.ptr h.next 0, N) ∧ storeV 5 (.ptr h.next 0) (.agg (seatE.f p)) N = some (h.alloc (.cells (seatE.f p) .ex)) :=
  new_st seatE _ rfl rfl h p
theorem new_st3 (h : LHeap) (p : Chan) : ∃ N, newL (.agg [.int .i64 0, .int .i64 0, .int .i64 0]) h = some (.ptr h.next 0, N) ∧ storeV 3 (.ptr h.next 0) (.agg (chanE.f p)) N = some (h.alloc (.cells (chanE.f p) .ex)) :=
  new_st chanE _ rfl rfl h p
theorem seat_c (p : Seat) : cellO none 0 (some (.cells (seatE.f p) .ex)) = some (i p.1) ∧ cellO (some 3) 1 (some (.cells (seatE.f p) .ex)) = some (.agg (chanE.f p.2.1)) ∧ cellO none 4 (some (.cells (seatE.f p) .ex)) = some (i p.2.2) ∧ cellO (some 5) 0 (some (.cells (seatE.f p) .ex)) = some (.agg (seatE.f p)) := ⟨rfl, rfl, rfl, rfl⟩
section
variable {g : LHeap} {r : Nat} {V : LV} {s : List Seat}
theorem onN_snoc {j : Nat} {p : Seat} (hp : s[j]? = some p) (t k : Int) : onN (s.take (j + 1)) t k = onN (s.take j) t k ++ if p.1 = t ∧ p.2.2 = k then [p.2.1] else [] := by
  rw [take_snoc hp]
  unfold onN
  rw [List.filter_append, List.map_append]
  congr 1
  by_cases h1 : p.1 = t
  · by_cases h2 : p.2.2 = k
    · simp [h1, h2]
    · simp [h1, h2]
  · simp [h1]
theorem onN_len (s : List Seat) (t k : Int) : (onN s t k).length ≤ s.length := by
  unfold onN; rw [List.length_map]; exact List.length_filter_le _ _
def onU (s : List Seat) (t : Int) (m : Nat) : List Chan := (List.range m).flatMap fun (k : Nat) => onN s t k
theorem onU_len (s : List Seat) (t : Int) : ∀ m, (onU s t m).length ≤ m * s.length
  | 0 => by simp [onU]
  | m + 1 => by
    have := onU_len s t m
    have h2 := onN_len s t m
    unfold onU at *
    rw [List.range_succ, List.flatMap_append, List.length_append]
    simp only [List.flatMap_cons, List.flatMap_nil, List.append_nil]
    rw [Nat.add_mul]; omega
theorem onU_succ (s : List Seat) (t : Int) (m : Nat) : onU s t (m + 1) = onU s t m ++ onN s t m := by
  unfold onU
  rw [List.range_succ, List.flatMap_append]
  simp only [List.flatMap_cons, List.flatMap_nil, List.append_nil]
set_option maxHeartbeats 1000000 in
/-- A thread's channels. -/
theorem ron_ok (x : g.get r = some (.cells [V] .ex)) (R : Row g V seatE s) (hs : s.length ≤ 4096) (t : Int) : Ok Try.prog 68 [.ptr r 0, i t] g fun W h => Sep noF g h [Thing.vec chanE W (onS s t)] := by
  refine ok68 fun wf _ => ?_
  have hr : r < g.next := wf.lt _ _ x
  have hlen := fun g' => R.len (P := Try.prog) ty73 (g' := g')
  simp only [F68, J68_0, J68_1, J68_3]
  refine loop_n (fun n (st : LV × LV) h => ∃ (k : Nat) (W : LV), st = (W, i (k : Int)) ∧ k + n = 16 ∧ Sep noF g h [Thing.vec chanE W (onU s t k)]) (n := 16) ⟨0, _, rfl, rfl, (Sep.start noF g).nils chanE⟩ ?_
  rintro n st h ⟨k, W, rfl, hk, Sp⟩
  cases n with
  | zero =>
    obtain rfl : k = 16 := by omega
    simp (disch := omega) only [L68_4, J68_2, i, sh, sh2, shi, dec]
    exact Sp
  | succ n =>
    have x1 : h.get r = some (.cells [V] .ex) := (Sp.fr.eq r hr id).trans x
    simp (disch := omega) only [L68_4, J68_5, J68_7, i, sh, sh2, shi, dec, x1, b_len, hlen]
    refine loop_n (fun n2 (st : LV × LV) h => ∃ (j : Nat) (W : LV), st = (W, i (j : Int)) ∧ j + n2 = s.length ∧ Sep noF g h [Thing.vec chanE W (onU s t k ++ onN (s.take j) t k)]) (n := s.length) ⟨0, W, rfl, by omega, by simpa [onN] using Sp⟩ ?_
    rintro n2 st h2 ⟨j, W2, rfl, hj, S2⟩
    cases n2 with
    | zero =>
      obtain rfl : j = s.length := by omega
      rw [List.take_length, ← onU_succ] at S2
      simp (disch := omega) only [L68_8, J68_6, i, sh, sh2, shi, dec]
      exact ⟨n, by omega, k + 1, W2, by simp, by omega, S2⟩
    | succ n2 =>
      obtain ⟨p, hp, _⟩ := drop_at (l := s) (k := j) (by omega)
      have Rh := R.old wf S2.fr
      have ix := Rh.ix (k := .i64) (i := j) (by omega)
      have ld := Rh.ld hp
      have e5 : seatE.e = 5 := rfl
      rw [e5] at ix ld
      obtain ⟨N, w1, w2⟩ := new_st5 h2 p
      obtain ⟨c0, c1, c2, c3⟩ := seat_c p
      have xc : (h2.alloc (.cells (seatE.f p) .ex)).get h2.next = some (.cells (seatE.f p) .ex) := get_alloc_eq _ _
      have S3 := S2.temp (.cells (seatE.f p) .ex)
      have sn := onN_snoc hp t k
      have l1 := onU_len s t k
      have l2 := onN_len (s.take j) t k
      have l3 : (s.take j).length ≤ s.length := by rw [List.length_take]; omega
      have l4 : k * s.length ≤ 16 * 4096 := Nat.mul_le_mul (by omega) hs
      by_cases h1 : p.1 = t
      · by_cases h2' : p.2.2 = k
        · rw [if_pos ⟨h1, h2'⟩] at sn
          obtain ⟨V', h', e, S4, c4, _⟩ := S3.push 0 rfl (bytes := 24) p.2.1 (cs := chanE.f p.2.1) rfl (by rw [List.length_append]; omega)
          have e : appendL 3 24 W2 _ _ = _ := e
          have bs := bs30_1 (h2.alloc (.cells (seatE.f p) .ex)) p.2.1.1 p.2.1.2.1 p.2.1.2.2
          have bs : buildSliceL Try.prog 30 1 [(0, .agg (chanE.f p.2.1))] _ = some (.slice (h2.alloc (.cells (seatE.f p) .ex)).next 0 1 (.ex 1), (h2.alloc (.cells (seatE.f p) .ex)).alloc (.cells (chanE.f p.2.1) .ex)) := bs
          have ap := ap30 (V := W2) (U := .slice (h2.alloc (.cells (seatE.f p) .ex)).next 0 1 (.ex 1)) rfl ((h2.alloc (.cells (seatE.f p) .ex)).alloc (.cells (chanE.f p.2.1) .ex))
          rw [e] at ap
          simp (disch := omega) only [L68_8, i, sh, sh2, shi, dec, ix, ld, shc, w1, w2, xc, c0, c2, c1, bs, ap]
          refine ⟨n2, by omega, j + 1, V', by simp, by omega, ?_⟩
          rw [sn, ← List.append_assoc]; exact S4
        · rw [if_neg fun h => h2' h.2, List.append_nil] at sn
          simp (disch := omega) only [L68_8, i, sh, sh2, shi, dec, ix, ld, shc, w1, w2, xc, c0, c2, c1]
          exact ⟨n2, by omega, j + 1, W2, by simp, by omega, by rw [sn]; exact S3⟩
      · rw [if_neg fun h => h1 h.1, List.append_nil] at sn
        simp (disch := omega) only [L68_8, i, sh, sh2, shi, dec, ix, ld, shc, w1, w2, xc, c0, c2, c1]
        exact ⟨n2, by omega, j + 1, W2, by simp, by omega, by rw [sn]; exact S3⟩
theorem slS_snoc {j : Nat} {p : Seat} (hp : s[j]? = some p) (c : Chan) : slS (s.take (j + 1)) c = slS (s.take j) c ++ if p.2.1 = c then [p.1] else [] := by
  rw [take_snoc hp]
  unfold slS
  rw [List.filter_append, List.map_append]
  congr 1
  by_cases h1 : p.2.1 = c
  · simp [h1]
  · simp [h1]
theorem slS_len (s : List Seat) (c : Chan) : (slS s c).length ≤ s.length := by
  unfold slS; rw [List.length_map]; exact List.length_filter_le _ _
set_option maxHeartbeats 1000000 in
/-- A channel's threads. -/
theorem rsl_ok (x : g.get r = some (.cells [V] .ex)) (R : Row g V seatE s) (hs : s.length ≤ 4096) (c : Chan) : Ok Try.prog 66 [.ptr r 0, .agg (chanE.f c)] g fun W h => Sep noF g h [Thing.vec intE W (slS s c)] := by
  refine ok66 fun wf _ => ?_
  have hr : r < g.next := wf.lt _ _ x
  have hlen := fun g' => R.len (P := Try.prog) ty73 (g' := g')
  have hn : newL (.agg (chanE.f c)) g = some (.ptr g.next 0, g.alloc (.cells (chanE.f c) .ex)) := new_agg _ _ (chanE.cell c)
  have x1 : (g.alloc (.cells (chanE.f c) .ex)).get r = some (.cells [V] .ex) := (get_alloc_ne _ _ (by omega)).trans x
  have xn : (g.alloc (.cells (chanE.f c) .ex)).get g.next = some (.cells (chanE.f c) .ex) := get_alloc_eq _ _
  have Sp := (Sep.start noF g).temp (.cells (chanE.f c) .ex)
  have hlt : g.next < (g.alloc (.cells (chanE.f c) .ex)).next := Nat.lt_succ_self _
  simp (disch := omega) only [F66, J66_0, J66_1, J66_3, i, sh, sh2, hn, x1, b_len, hlen]
  generalize g.alloc (.cells (chanE.f c) .ex) = g1 at *
  refine loop_n (fun n2 (st : LV × LV) h => ∃ (j : Nat) (W : LV), st = (W, i (j : Int)) ∧ j + n2 = s.length ∧ Sep noF g h [Thing.vec intE W (slS (s.take j) c)] ∧ h.get g.next = some (.cells (chanE.f c) .ex) ∧ g.next < h.next ∧ ∀ b, W.obj = some b → b ≠ g.next) (n := s.length) ⟨0, .nils, rfl, by omega, by simpa [slS] using Sp.nils intE, xn, hlt, fun b hb => by cases hb⟩ ?_
  rintro n2 st h2 ⟨j, W2, rfl, hj, S2, xn2, hl2, wn2⟩
  cases n2 with
  | zero =>
    obtain rfl : j = s.length := by omega
    rw [List.take_length] at S2
    simp (disch := omega) only [L66_4, J66_2, i, sh, sh2, shi, dec]
    exact S2
  | succ n2 =>
    obtain ⟨p, hp, _⟩ := drop_at (l := s) (k := j) (by omega)
    have Rh := R.old wf S2.fr
    have ix := Rh.ix (k := .i64) (i := j) (by omega)
    have ld := Rh.ld hp
    have e5 : seatE.e = 5 := rfl
    rw [e5] at ix ld
    obtain ⟨N, w1, w2⟩ := new_st5 h2 p
    obtain ⟨c0, c1, c2, c3⟩ := seat_c p
    have xc : (h2.alloc (.cells (seatE.f p) .ex)).get h2.next = some (.cells (seatE.f p) .ex) := get_alloc_eq _ _
    have xn3 : (h2.alloc (.cells (seatE.f p) .ex)).get g.next = some (.cells (chanE.f c) .ex) := (get_alloc_ne _ _ (by omega)).trans xn2
    have S3 := S2.temp (.cells (seatE.f p) .ex)
    have sn := slS_snoc hp c
    have l2 := slS_len (s.take j) c
    have l3 : (s.take j).length ≤ s.length := by rw [List.length_take]; omega
    have hl3 : g.next < (h2.alloc (.cells (seatE.f p) .ex)).next := Nat.lt_succ_of_lt hl2
    have eqD := chan_eqD p.2.1 c
    simp (disch := omega) only [L66_4, i, sh, sh2, shi, dec, ix, ld, shc, w1, w2, xc, c1, xn3, chan_cell, eqD]
    generalize h2.alloc (.cells (seatE.f p) .ex) = h3 at *
    by_cases h1 : p.2.1 = c
    · rw [if_pos h1] at sn
      obtain ⟨V', h', e, S4, c4, n4, f4, o4⟩ := S3.push 0 rfl (bytes := 8) p.1 (cs := [i p.1]) rfl (by omega)
      have e : appendL 1 8 W2 _ _ = _ := e
      have bs := bs24_1 h3 p.1
      have ap := ap24 (V := W2) (U := .slice h3.next 0 1 (.ex 1)) rfl (h3.alloc (.cells [i p.1] .ex))
      rw [e] at ap
      have f0 : (seatE.f p)[0]? = some (.int .i64 p.1) := rfl
      simp only [i] at bs ap
      simp (disch := omega) only [i, sh, sh2, shi, dec, decide_eq_true h1, xc, f0, bs, ap]
      refine ⟨n2, by omega, j + 1, V', by simp, by omega, by rw [sn]; exact S4, (f4.eq _ hl3 fun h => wn2 _ h rfl).trans xn3, by omega, fun b hb => ?_⟩
      rcases o4 b hb with h | h
      · exact wn2 b h
      · omega
    · rw [if_neg h1, List.append_nil] at sn
      simp (disch := omega) only [i, sh, sh2, shi, dec, decide_eq_false h1]
      exact ⟨n2, by omega, j + 1, W2, by simp, by omega, by rw [sn]; exact S3, hl3, wn2⟩
end
end Go.Proofs.Ytgncgokjbakdmaa
