/-
  parapetref07: Start.
-/
import Derived.Test.YtgncgokjbakdmaaTp4
set_option linter.all false
namespace Go.Proofs.Ytgncgokjbakdmaa
open Go.ChangeShapes Go.WideShapes Go.ChangeAt Go.RowKit Go.Lm
set_option linter.unusedSimpArgs false
set_option maxRecDepth 10000
theorem few' {X : Type} [DecidableEq X] : ∀ (l k : List X), l.Nodup → (∀ x ∈ l, x ∈ k) → l.length ≤ k.length
  | [], _, _, _ => Nat.zero_le _
  | x :: l, k, hd, hs => by
    rw [List.nodup_cons] at hd
    have hx := hs x (List.mem_cons_self ..)
    have := few' l (k.erase x) hd.2 fun y hy => (List.mem_erase_of_ne (fun e => hd.1 (by rw [← e]; exact hy))).2 (hs y (by simp [hy]))
    rw [List.length_erase_of_mem hx] at this
    have := List.length_pos_of_mem hx
    simp only [List.length_cons]; omega
theorem okTs_len {n : Nat} {ts : List Int} (h : okTs n ts) : ts.length ≤ n := by
  have := few' ts ((List.range n).map fun (j : Nat) => (j : Int)) h.1 fun x hx => by
    have := h.2 x hx
    exact List.mem_map.2 ⟨x.toNat, by rw [List.mem_range]; omega, by omega⟩
  simpa using this
theorem ap112 {V U : LV} (hU : U.isStr = false) (g : LHeap) : builtinL Try.prog .append [112, 112] [V, U] g = appendL 3 40 V U g := append_ok (by kernel_rfl) hU g
theorem bl128 (a b : Int) (V : LV) (hV : V.cell = true) : buildL Try.prog 128 [(0, .int .i64 a), (1, .int .i64 b), (2, V)] = some (.agg [.int .i64 a, .int .i64 b, V]) := by
  cases V <;> first | (cases hV; done) | exact nr (by kernel_rfl)
theorem bs112_1 (h : LHeap) (a b : Int) (V : LV) (hV : V.cell = true) : buildSliceL Try.prog 112 1 [(0, .agg [.int .i64 a, .int .i64 b, V])] h = some (.slice h.next 0 1 (.ex 1), h.alloc (.cells [.int .i64 a, .int .i64 b, V] .ex)) := by
  cases V <;> first | (cases hV; done) | exact nr (by kernel_rfl)
theorem bs24_0 (h : LHeap) : buildSliceL Try.prog 24 0 [] h = some (.slice h.next 0 0 (.ex 0), h.alloc (.cells [] .ex)) := nr (by kernel_rfl)
def rstart (st : RSt) (sp : Int) (ts : List Int) : RSt := { st with all := st.all ++ [(sp, ts)] }
section
variable {F : Nat → Prop} {g h h' : LHeap} {x k : Nat} {size : Int} {HV AV : LV} {hs : List RH} {ss : List SX} {Zs : List Thing} {st : RSt} {S : Nat → Prop}
theorem RStart_ok (B : (RBox x S st).ok g) (lt : ∀ a, S a → a < g.next) (sp : Int) {V : LV} {ts : List Int} (R : Row g V intE ts) (ltV : ∀ a, V.obj = some a → a < g.next) (hS : ∀ a, V.obj = some a → ¬ S a) (hm : ts.length ≤ 2 ^ 50) (hal : st.all.length < 1048576) : Ok Try.prog 56 [.ptr x 0, i sp, V] g fun v h =>
    (¬ okTs st.harts.length ts ∧ v = .tuple [i 0, i 1] ∧ h = g) ∨
    (okTs st.harts.length ts ∧ v = .tuple [i (st.all.length + 1), i 0] ∧ After (RD x) S g h (rstart st sp ts)) := by
  refine ok56 fun wf _ => ?_
  obtain ⟨Ts, ⟨HV, AV, hs, ss, rfl, hh, hall, hid, w⟩, Sp⟩ := box_open B lt
  have Sp0 : Sep S g g (RTs x st.size HV AV hs ss ++ []) := by rw [List.append_nil]; exact Sp
  have hln : hs.length = st.harts.length := by rw [← hh, List.length_map]
  have hls : ss.length = st.all.length := by rw [← hall, List.length_map]
  have x0 := Sp.cell (a := x) (vs := [i st.size, HV, AV]) 0 rfl
  have hl := R.len (P := Try.prog) ty24
  have he : intE.e = 1 := rfl
  simp (disch := omega) only [F56, J56_0, J56_2]
  refine loop_n (fun n s h => ∃ j : Nat, s = i (j : Int) ∧ j + n = ts.length ∧ h = g ∧ okTs st.harts.length (ts.take j)) (n := ts.length) ⟨0, rfl, by omega, rfl, by simp [okTs]⟩ ?_
  rintro n s g ⟨j, rfl, hj, rfl, hok⟩
  cases n with
  | succ n =>
    obtain ⟨y, hy, hd⟩ := drop_at (l := ts) (k := j) (by omega)
    have hix := R.ix (k := .i64) (i := j) (by omega)
    have hld := R.ld1 hy rfl rfl
    rw [he] at hix
    have htk := take_snoc hy
    simp (disch := omega) only [L56_3, J56_4, i, sh, sh2, shi, dec, b_len, hl, hix, hld]
    refine (rhart_ok Sp0 y).mono ?_
    rintro _ g ⟨rfl, rfl⟩
    by_cases hr : 0 ≤ y ∧ y < hs.length
    rotate_left
    · rw [decide_eq_false hr]
      simp (disch := omega) only [sh, sh2]
      exact .inl ⟨fun h => hr (by rw [hln]; exact h.2 y (List.mem_of_getElem? hy)), trivial, trivial⟩
    rw [decide_eq_true hr]
    simp (disch := omega) only [sh, sh2, J56_6, J56_7]
    refine loop_n (fun n s h => ∃ q : Nat, s = i (q : Int) ∧ q + n = j ∧ h = g ∧ y ∉ ts.take q) (n := j) ⟨0, rfl, by omega, rfl, by simp⟩ ?_
    rintro n' s g ⟨q, rfl, hq, rfl, hnq⟩
    cases n' with
    | zero =>
      obtain rfl : q = j := by omega
      simp (disch := omega) only [L56_8, J56_5, i, sh, sh2, shi, dec]
      refine ⟨n, by omega, q + 1, by simp, by omega, trivial, ?_⟩
      rw [htk]
      refine ⟨List.nodup_append.2 ⟨hok.1, by simp, fun a ha b hb e => ?_⟩, fun a ha => ?_⟩
      · simp only [List.mem_singleton] at hb
        subst hb
        exact hnq (e ▸ ha)
      · rcases List.mem_append.1 ha with ha | ha
        · exact hok.2 a ha
        · rw [List.mem_singleton.1 ha, ← hln]; exact hr
    | succ n' =>
      obtain ⟨z, hz⟩ : ∃ z, ts[q]? = some z := ⟨ts[q]'(by omega), List.getElem?_eq_getElem (by omega)⟩
      have hix' := R.ix (k := .i64) (i := q) (by omega)
      have hld' := R.ld1 hz rfl rfl
      rw [he] at hix'
      by_cases hzy : z = y
      · simp (disch := omega) only [L56_8, i, sh, sh2, shi, dec, hix, hld, hix', hld']
        refine .inl ⟨fun h => ?_, trivial, trivial⟩
        obtain ⟨a1, a2⟩ := List.getElem?_eq_some_iff.1 hz
        obtain ⟨b1, b2⟩ := List.getElem?_eq_some_iff.1 hy
        have := (List.getElem_inj h.1).1 (a2.trans (hzy.trans b2.symm))
        omega
      · simp (disch := omega) only [L56_8, i, sh, sh2, shi, dec, hix, hld, hix', hld']
        refine ⟨n', by omega, q + 1, by simp, by omega, trivial, ?_⟩
        rw [take_snoc hz, List.mem_append]
        rintro (h | h)
        · exact hnq h
        · simp only [List.mem_singleton] at h; exact hzy h.symm
  | zero =>
    rw [List.take_of_length_le (by omega)] at hok
    have hla := all_len Sp0
    simp only [i] at x0
    simp (disch := omega) only [L56_3, J56_1, i, sh, sh2, shi, dec, b_len, hl, x0, hla, bs24_0, and_true]
    have hl8 : ts.length ≤ 8 := Nat.le_trans (okTs_len hok) w.h8
    have x1 := (Sp.temp (.cells [] .ex)).cell (a := x) (vs := [i st.size, HV, AV]) 0 rfl
    obtain ⟨L, h2, ea, S2, cL, f2, _⟩ := Sp.clone' R ltV (bytes := 8) (by omega)
    rw [he] at ea
    have hap := ap24 (V := .slice g.next 0 0 (.ex 0)) (U := V) R.not_str (g.alloc (.cells [] .ex))
    rw [ea] at hap
    have x2 := S2.cell (a := x) (vs := [i st.size, HV, AV]) 0 rfl
    have S2t := S2.temp (.cells [.int .i64 (ss.length + 1), .int .i64 sp, L] .ex)
    have x2t := S2t.cell (a := x) (vs := [i st.size, HV, AV]) 0 rfl
    obtain ⟨AV', h3, eb, S3, cA, _, _⟩ := S2.push (V := AV) (E := shE) (l := ss.map SX.hd) 2 rfl (bytes := 40) (ss.length + 1, sp, L) (cs := [.int .i64 (ss.length + 1), .int .i64 sp, L]) (by simp [shE, cellOr_eq cL]) (by rw [List.length_map]; omega)
    have hse : shE.e = 3 := rfl
    rw [hse] at eb
    have hap2 := ap112 (V := AV) (U := .slice h2.next 0 1 (.ex 1)) rfl (h2.alloc (.cells [.int .i64 (ss.length + 1), .int .i64 sp, L] .ex))
    rw [eb] at hap2
    have hbs := bs112_1 h2 (ss.length + 1) sp L cL
    have x3 := S3.cell (a := x) (vs := [i st.size, HV, AV]) 0 rfl
    have S4 := S3.store (a := x) (vs := [i st.size, HV, AV]) 0 rfl [i st.size, HV, AV']
    have x4 := S4.cell (a := x) (vs := [i st.size, HV, AV']) 0 rfl
    have hl4 := (S4.row (V := AV') (E := shE) (l := ss.map SX.hd ++ [(((ss.length : Int) + 1), sp, L)]) 2 rfl).len (P := Try.prog) ty112
    have e4 : ((ss.map SX.hd ++ [(((ss.length : Int) + 1), sp, L)]).length : Int) = ss.length + 1 := by simp
    rw [e4] at hl4
    simp only [i] at x1 x2 x2t x3 x4
    simp (disch := omega) only [x1, hap, sh, sh2, x2, bl128 _ _ L cL, hbs, x2t, hap2, x3, store_o _ _ _ cA, x4, b_len, hl4, true_and, and_true]
    refine .inr ⟨hok, by rw [hls], ?_⟩
    have e5 : (RTs x st.size HV AV' hs (ss ++ [(⟨ss.length + 1, sp, L, ts⟩ : SX)])) = [Thing.cells x [i st.size, HV, AV'], Thing.vec slE HV (hs.map (·.1)), Thing.vec shE AV' (ss.map SX.hd ++ [(((ss.length : Int) + 1), sp, L)])] ++ (hs.map hT ++ ss.map SX.T) ++ [Thing.vec intE L ts] := by
      simp [RTs, SX.hd, SX.T]
    refine Sep.after (Ts := RTs x st.size HV AV' hs (ss ++ [(⟨ss.length + 1, sp, L, ts⟩ : SX)])) (by rw [e5]; exact S4) ⟨HV, AV', hs, _, rfl, hh, by simp [rstart, hall, SX.pr], fun j' s hj' => ?_, w.s1, w.s2, w.h8, w.nd, by simp [rstart]; omega, fun p hp => ?_⟩
    · rcases Nat.lt_or_ge j' ss.length with hlt | hge
      · rw [List.getElem?_append_left hlt] at hj'; exact hid j' s hj'
      · rw [List.getElem?_append_right hge] at hj'
        have : j' - ss.length = 0 := by
          rcases Nat.eq_zero_or_pos (j' - ss.length) with h | h
          · exact h
          · rw [List.getElem?_eq_none (by simp; omega)] at hj'; cases hj'
        rw [this] at hj'
        cases hj'
        show (ss.length : Int) + 1 = _
        omega
    · rcases List.mem_append.1 hp with hp | hp
      · exact w.le p hp
      · rw [List.mem_singleton.1 hp]; exact hl8
end
end Go.Proofs.Ytgncgokjbakdmaa
