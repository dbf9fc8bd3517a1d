/-
  namec's reference: Look, Put, Forget, ForgetDir.
-/
import Derived.Test.YthinkofjbabfbaaDoorNcH
set_option linter.all false
namespace Go.Proofs.YthinkofjbabfbaaDoor
open Go.ChangeShapes Go.WideShapes Go.ChangeAt Go.RowKit Go.Lm
set_option linter.unusedSimpArgs false
set_option linter.unusedVariables false
set_option maxRecDepth 10000
section
variable {F : Nat → Prop} {g h : LHeap} {x : Nat} {LV' GV : LV} {st : NSt} {Zs : List Thing}
theorem ext2 (a b : LV) : extractL (.tuple [a, b]) 0 = some a ∧ extractL (.tuple [a, b]) 1 = some b := ⟨rfl, rfl⟩
/-- Look. -/
theorem rlook_ok (Sp : Sep F g h (RTs x LV' GV st ++ Zs)) (w : NWf st) (k : NKey) : Ok Tryd.prog 18 [.ptr x 0, .agg (nameE.f k)] h fun v h' => v = .tuple [i (kv2 st.L k).1, .bool (look st.L k).isSome] ∧ Fr noF h h' := by
  refine ok18 fun wf _ => ?_
  have hn : newL (.agg (nameE.f k)) h = some (.ptr h.next 0, h.alloc (.cells (nameE.f k) .ex)) := new_agg _ _ (nameE.cell k)
  have S1 := Sp.temp (.cells (nameE.f k) .ex)
  have f1 : Fr noF h (h.alloc (.cells (nameE.f k) .ex)) := Fr.alloc _ _
  have xk : (h.alloc (.cells (nameE.f k) .ex)).get h.next = some (.cells (nameE.f k) .ex) := get_alloc_eq _ _
  simp (disch := omega) only [F18, i, sh, sh2, hn, xk, name_cell]
  refine (find_ok S1 w k).mono ?_
  rintro _ h2 ⟨rfl, f2⟩
  have S2 := S1.pure f2
  cases hlk : look st.L k with
  | none =>
    have ek : kv2 st.L k = (0, 0) := by unfold kv2; rw [hlk]; rfl
    rw [idxK_none hlk, ek]
    simp (disch := omega) only [i, sh, sh2, shi, dec, Option.isSome_none]
    exact ⟨trivial, f1.trans f2⟩
  | some e =>
    obtain ⟨j, h1, h2'⟩ := idxK_some hlk
    have ek : kv2 st.L k = (e.2.1, e.2.2) := by unfold kv2; rw [hlk]; rfl
    rw [h1, ek]
    have hjl := (List.getElem?_eq_some_iff.1 h2').1
    have x0 := S2.cell (a := x) (vs := [i st.room, LV', i st.last, GV]) 0 rfl
    have R0 := S2.row (E := keptE) (V := LV') (l := st.L) 1 rfl
    have ix := R0.ix (k := .i64) (i := j) hjl
    obtain ⟨a, off, e1, ef, _⟩ := R0.fla h2'
    have e4 : keptE.e = 4 := rfl
    rw [e4] at ix e1
    rw [e1] at ix
    have ef2 := ef 2 (i e.2.1) rfl
    have hL := w.len
    have hr := w.room
    simp only [i] at ef2
    simp (disch := omega) only [i, sh, sh2, shc, shi, dec, Option.isSome_some, x0, ix, ef2]
    exact f1.trans f2
/-- Forget. -/
theorem rforget_ok (Sp : Sep F g h (RTs x LV' GV st ++ Zs)) (w : NWf st) (hl : st.last < 2 ^ 42) (k : NKey) :
    Ok Tryd.prog 22 [.ptr x 0, .agg (nameE.f k)] h fun v h' => v = .bool (look st.L k).isSome ∧ ∃ LV2 GV2, Sep F g h' (RTs x LV2 GV2 (forgetS st k) ++ Zs) := by
  refine ok22 fun wf _ => ?_
  have hn : newL (.agg (nameE.f k)) h = some (.ptr h.next 0, h.alloc (.cells (nameE.f k) .ex)) := new_agg _ _ (nameE.cell k)
  have S1 := Sp.temp (.cells (nameE.f k) .ex)
  have xk : (h.alloc (.cells (nameE.f k) .ex)).get h.next = some (.cells (nameE.f k) .ex) := get_alloc_eq _ _
  simp (disch := omega) only [F22, i, sh, sh2, hn, xk, name_cell]
  refine (find_ok S1 w k).mono ?_
  rintro _ h2 ⟨rfl, f2⟩
  have S2 := S1.pure f2
  cases hlk : look st.L k with
  | none =>
    rw [idxK_none hlk, forget_none hlk]
    simp (disch := omega) only [i, sh, sh2, shi, dec, Option.isSome_none]
    exact ⟨trivial, LV', GV, S2⟩
  | some e =>
    obtain ⟨j, h1, h2'⟩ := idxK_some hlk
    rw [h1]
    have hjl := (List.getElem?_eq_some_iff.1 h2').1
    have hL := w.len
    have hr := w.room
    have ek := (look_mem_k hlk).2
    simp (disch := omega) only [i, sh, sh2, shi, dec, Option.isSome_some]
    refine (drop_ok S2 w hl h2').mono ?_
    rintro _ h3 ⟨rfl, LV2, GV2, S3⟩
    rw [ek] at S3
    exact ⟨trivial, LV2, GV2, S3⟩
set_option maxHeartbeats 1000000 in
/-- Put. -/
theorem rput_ok (Sp : Sep F g h (RTs x LV' GV st ++ Zs)) (w : NWf st) (hl : st.last < 2 ^ 42) (k : NKey) (y : Int) :
    Ok Tryd.prog 20 [.ptr x 0, .agg (nameE.f k), i y] h fun v h' => v = i (if y < 0 then 1 else 0) ∧ ∃ LV2 GV2, Sep F g h' (RTs x LV2 GV2 (if y < 0 then st else putS st k y) ++ Zs) := by
  refine ok20 fun wf _ => ?_
  have hn : newL (.agg (nameE.f k)) h = some (.ptr h.next 0, h.alloc (.cells (nameE.f k) .ex)) := new_agg _ _ (nameE.cell k)
  have S1 := Sp.new (nameE.f k)
  generalize ht : h.next = t3 at *
  generalize hh : h.alloc (.cells (nameE.f k) .ex) = h1 at *
  rw [List.append_assoc] at S1
  have xk : h1.get t3 = some (.cells (nameE.f k) .ex) := S1.cell (3 + Zs.length) rt_last
  have fin0 : ∀ {h' Ts}, Sep F g h' (Ts ++ (Zs ++ [Thing.cells t3 (nameE.f k)])) → Sep F g h' (Ts ++ Zs) := fun {h' Ts} hS => by
    rw [← List.append_assoc] at hS; exact hS.init
  by_cases hy : y < 0
  · rw [if_pos hy, if_pos hy]
    simp (disch := omega) only [F20, J20_0, i, sh, sh2, shi, dec, hn]
    exact ⟨trivial, LV', GV, fin0 S1⟩
  rw [if_neg hy, if_neg hy]
  obtain ⟨w1, r1, r2, r3, r4⟩ := roomS_room w k
  have hr := w.room
  have hs := w.sum
  have hL := w.len
  have tail : ∀ {h2 : LHeap} {LV2 GV2 : LV}, Sep F g h2 (RTs x LV2 GV2 (roomS st k) ++ (Zs ++ [Thing.cells t3 (nameE.f k)])) →
      J20_2 (.ptr x 0) (i y) (.ptr t3 0) h2 fun v h' => v = i 0 ∧ ∃ LV' GV', Sep F g h' (RTs x LV' GV' (putS st k y) ++ Zs) := by
    intro h2 LV2 GV2 S2
    have x2 := S2.cell (a := x) (vs := [i (roomS st k).room, LV2, i (roomS st k).last, GV2]) 0 rfl
    rw [r3] at x2
    have S3 := S2.store 0 rfl [i (roomS st k).room, LV2, i (st.last + 1), GV2]
    have e1 : storeV 1 (.ptr x 2) (i (st.last + 1)) h2 = some (h2.set x (.cells [i (roomS st k).room, LV2, i (st.last + 1), GV2] .ex)) := by rw [store_o _ _ _ rfl, x2]; rfl
    generalize h2.set x (.cells [i (roomS st k).room, LV2, i (st.last + 1), GV2] .ex) = h3 at *
    have S3 : Sep F g h3 (RTg x (roomS st k).room LV2 (roomS st k).L (st.last + 1) GV2 ((roomS st k).waits.map (·.1)) ++ (Zs ++ [Thing.cells t3 (nameE.f k)])) := S3
    have x3 := S3.cell (a := x) (vs := [i (roomS st k).room, LV2, i (st.last + 1), GV2]) 0 rfl
    have xk3 : h3.get t3 = some (.cells (nameE.f k) .ex) := S3.cell (3 + Zs.length) rt_last
    obtain ⟨V5, h5, e5, S5, c5, _⟩ := S3.push (E := keptE) (V := LV2) (l := (roomS st k).L) 1 rfl (bytes := 40) (k, y, st.last + 1) (cs := keptE.f (k, y, st.last + 1)) rfl (by omega)
    have e5 : appendL 4 40 LV2 _ _ = _ := e5
    have bs := bs37_1 h3 (k, y, st.last + 1)
    have bl := bl54 k y (st.last + 1)
    have ap := ap37 (V := LV2) (U := .slice h3.next 0 1 (.ex 1)) rfl (h3.alloc (.cells (keptE.f (k, y, st.last + 1)) .ex))
    rw [e5] at ap
    have x3a : (h3.alloc (.cells (keptE.f (k, y, st.last + 1)) .ex)).get x = some (.cells [i (roomS st k).room, LV2, i (st.last + 1), GV2] .ex) := (get_alloc_ne _ _ (Nat.ne_of_lt (S3.lt (T := Thing.cells x [i (roomS st k).room, LV2, i (st.last + 1), GV2]) 0 rfl (a := x) rfl))).trans x3
    have x5 := S5.cell (a := x) (vs := [i (roomS st k).room, LV2, i (st.last + 1), GV2]) 0 rfl
    have S6 := S5.store 0 rfl [i (roomS st k).room, V5, i (st.last + 1), GV2]
    have est : storeV 1 (.ptr x 1) V5 h5 = some (h5.set x (.cells [i (roomS st k).room, V5, i (st.last + 1), GV2] .ex)) := by rw [store_o _ _ _ c5, x5]; rfl
    simp only [i] at e1
    simp (disch := omega) only [J20_2, i, sh, sh2, shc, shi, dec, x2, e1, x3, xk3, name_cell, bl, bs, x3a, ap, est]
    exact ⟨V5, GV2, fin0 S6⟩
  simp only [i] at tail
  simp (disch := omega) only [F20, J20_0, J20_1, i, sh, sh2, shi, dec, hn, xk, name_cell]
  refine (find_ok S1 w k).mono ?_
  rintro _ h2 ⟨rfl, f2⟩
  have S2 := S1.pure f2
  cases hlk : look st.L k with
  | none =>
    rw [idxK_none hlk]
    have x2 := S2.cell (a := x) (vs := [i st.room, LV', i st.last, GV]) 0 rfl
    have R2 := S2.row (E := keptE) (V := LV') (l := st.L) 1 rfl
    have hl2 := fun g' => R2.len (P := Tryd.prog) ty37 (g' := g')
    by_cases hrm : st.room ≤ st.L.length
    · cases hc : st.L with
      | nil => rw [hc] at hrm; simp at hrm; omega
      | cons e L' =>
        have er : roomS st k = forgetS st e.1 := by
          unfold roomS
          rw [if_neg (by rw [hlk]; decide), if_pos hrm, hc]
        rw [er] at tail
        have h0 : st.L[0]? = some e := by rw [hc]; rfl
        rw [hc] at hl2 hrm
        simp (disch := omega) only [i, sh, sh2, shc, shi, dec, x2, hl2]
        have dr := drop_ok S2 w hl h0
        have c0 : ((0 : Nat) : Int) = 0 := rfl
        rw [c0] at dr
        simp only [i] at dr
        refine dr.mono ?_
        rintro _ h3 ⟨rfl, LV3, GV3, S3⟩
        exact tail S3
    · have er : roomS st k = st := by
        unfold roomS
        rw [if_neg (by rw [hlk]; decide), if_neg hrm]
      rw [er] at tail
      simp (disch := omega) only [i, sh, sh2, shc, shi, dec, x2, hl2]
      exact tail S2
  | some e =>
    obtain ⟨j, h1, h2'⟩ := idxK_some hlk
    have er : roomS st k = forgetS st k := by unfold roomS; rw [if_pos (by rw [hlk]; rfl)]
    rw [er] at tail
    rw [h1]
    have hjl := (List.getElem?_eq_some_iff.1 h2').1
    have ek := (look_mem_k hlk).2
    simp (disch := omega) only [i, sh, sh2, shi, dec]
    refine (drop_ok S2 w hl h2').mono ?_
    rintro _ h3 ⟨rfl, LV3, GV3, S3⟩
    rw [ek] at S3
    exact tail S3
set_option maxHeartbeats 1000000 in
/-- ForgetDir. -/
theorem rforgetDir_ok (Sp : Sep F g h (RTs x LV' GV st ++ Zs)) (w : NWf st) (hl : st.last < 2 ^ 42) (dir : Int) :
    Ok Tryd.prog 24 [.ptr x 0, i dir] h fun v h' => v = i (fdL dir (keysS st.L) st 0).2 ∧ ∃ LV2 GV2, Sep F g h' (RTs x LV2 GV2 (fdL dir (keysS st.L) st 0).1 ++ Zs) := by
  refine ok24 fun wf _ => ?_
  have hL := w.len
  have hr := w.room
  simp (disch := omega) only [F24, J24_0, J24_1, J24_3, i]
  generalize hfin : fdL dir (keysS st.L) st 0 = fin
  refine loop_n (fun n2 (s : LV × LV) h' => ∃ (j : Nat) (cnt : Int) (cur : NSt) (LV2 GV2 : LV), s = (i cnt, i (j : Int)) ∧ j + n2 = cur.L.length ∧ 0 ≤ cnt ∧ cnt + cur.L.length ≤ 4096 ∧ NWf cur ∧ cur.last = st.last ∧ fdL dir ((keysS cur.L).drop j) cur cnt = fin ∧ Sep F g h' (RTs x LV2 GV2 cur ++ Zs)) (n := st.L.length)
    ⟨0, 0, st, LV', GV, rfl, by omega, by omega, by omega, w, rfl, by rw [List.drop_zero]; exact hfin, Sp⟩ ?_
  rintro n2 s h' ⟨j, cnt, cur, LV2, GV2, rfl, hj, h0, h1', wc, hlast, hfd, Sj⟩
  have x2 := Sj.cell (a := x) (vs := [i cur.room, LV2, i cur.last, GV2]) 0 rfl
  have R2 := Sj.row (E := keptE) (V := LV2) (l := cur.L) 1 rfl
  have hl2 := fun g' => R2.len (P := Tryd.prog) ty37 (g' := g')
  have ll : (keysS cur.L).length = cur.L.length := List.length_map _
  cases n2 with
  | zero =>
    obtain rfl : j = cur.L.length := by omega
    rw [List.drop_of_length_le (by rw [ll]; exact Nat.le_refl _)] at hfd
    simp (disch := omega) only [L24_4, J24_2, i, sh, sh2, shc, shi, dec, x2, b_len, hl2]
    rw [← hfd]
    exact ⟨rfl, LV2, GV2, Sj⟩
  | succ n2 =>
    obtain ⟨e, he, hd⟩ := drop_at (l := cur.L) (k := j) (by omega)
    have hk : (keysS cur.L).drop j = e.1 :: (keysS cur.L).drop (j + 1) := by
      unfold keysS
      rw [← List.map_drop, hd, List.map_cons, ← List.map_drop]
    rw [hk, fdL] at hfd
    obtain ⟨hlk, hdk⟩ := look_at wc.keys he
    have ix := R2.ix (k := .i64) (i := j) (by omega)
    obtain ⟨a, off, e1, ef, _⟩ := R2.fla he
    have e4 : keptE.e = 4 := rfl
    rw [e4] at ix e1
    rw [e1] at ix
    have ef0 := ef 0 (i e.1.1) rfl
    rw [Nat.add_zero] at ef0
    simp only [i] at ef0
    by_cases hdir : e.1.1 = dir
    · rw [if_pos hdir, if_pos (by rw [hlk]; rfl)] at hfd
      simp (disch := omega) only [L24_4, i, sh, sh2, shc, shi, dec, x2, b_len, hl2, ix, ef0]
      refine (drop_ok Sj wc (by omega) he).mono ?_
      rintro _ h5 ⟨rfl, LV5, GV5, S5⟩
      have eL : (forgetS cur e.1).L = cur.L.take j ++ cur.L.drop (j + 1) := by rw [forget_L hlk, hdk]
      have lt : (cur.L.take j).length = j := by rw [List.length_take]; omega
      have eLl : (forgetS cur e.1).L.length + 1 = cur.L.length := by rw [eL, List.length_append, lt, List.length_drop]; omega
      refine ⟨n2, by omega, j, cnt + 1, forgetS cur e.1, LV5, GV5, by simp, by omega, by omega, by omega, wc.forget e.1, (forget_last cur e.1).1.trans hlast, ?_, S5⟩
      have : (keysS (forgetS cur e.1).L).drop j = (keysS cur.L).drop (j + 1) := by
        unfold keysS
        rw [eL, List.map_append, List.drop_append_of_le_length (by rw [List.length_map, lt]; exact Nat.le_refl _), List.drop_of_length_le (by rw [List.length_map, lt]; exact Nat.le_refl _), List.nil_append, List.map_drop]
      rw [this]; exact hfd
    · rw [if_neg hdir] at hfd
      simp (disch := omega) only [L24_4, i, sh, sh2, shc, shi, dec, x2, b_len, hl2, ix, ef0]
      exact ⟨n2, by omega, j + 1, cnt, cur, LV2, GV2, by simp, by omega, by omega, by omega, wc, hlast, hfd, Sj⟩
end
end Go.Proofs.YthinkofjbabfbaaDoor
