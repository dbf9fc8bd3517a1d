/-
  namec: Put, Kept, ForgetDir.
-/
import Derived.Test.YthinkofjbabfbaaDoorNcF
set_option linter.all false
namespace Go.Proofs.YthinkofjbabfbaaDoor
open Go.ChangeShapes Go.WideShapes Go.ChangeAt Go.RowKit Go.Lm
set_option linter.unusedSimpArgs false
set_option linter.unusedVariables false
set_option maxRecDepth 10000
def Thing.row {X : Type} (E : Enc X) (V : LV) (l : List X) : Thing := ⟨fun a => V.obj = some a, fun h => Row h V E l, fun _ _ k a => a.fr k⟩
/-- What room Put makes. -/
def roomS (st : NSt) (k : NKey) : NSt := if (look st.L k).isSome = true then forgetS st k else if st.room ≤ st.L.length then (match st.L with | [] => st | e :: _ => forgetS st e.1) else st
def putS (st : NSt) (k : NKey) (n : Int) : NSt := { roomS st k with L := (roomS st k).L ++ [(k, n, st.last + 1)], last := st.last + 1 }
theorem forget_last (st : NSt) (k : NKey) : (forgetS st k).last = st.last ∧ (forgetS st k).room = st.room ∧ (forgetS st k).nest = st.nest ∧ (forgetS st k).passed = st.passed ∧ (forgetS st k).ep = st.ep := by
  unfold forgetS; split <;> exact ⟨rfl, rfl, rfl, rfl, rfl⟩
theorem look_head {e : KE} {L : List KE} : look (e :: L) e.1 = some e := by unfold look; simp
theorem forget_none {st : NSt} {k : NKey} (h : look st.L k = none) : forgetS st k = st := by unfold forgetS; rw [h]
theorem forget_L {st : NSt} {k : NKey} {e : KE} (h : look st.L k = some e) : (forgetS st k).L = dropK st.L k := by unfold forgetS; rw [h]
theorem roomS_room {st : NSt} (w : NWf st) (k : NKey) : NWf (roomS st k) ∧ ((roomS st k).L.length : Int) + 1 ≤ st.room ∧ k ∉ keysS (roomS st k).L ∧ (roomS st k).last = st.last ∧ (roomS st k).room = st.room := by
  unfold roomS
  have hL := w.len
  by_cases h : (look st.L k).isSome = true
  · rw [if_pos h]
    obtain ⟨e, he⟩ := Option.isSome_iff_exists.1 h
    have hd := (dropK_len w.keys he).1
    refine ⟨w.forget k, by rw [forget_L he]; omega, ?_, (forget_last st k).1, (forget_last st k).2.1⟩
    rw [forget_L he, ← dropK_keys]
    intro hh
    simpa using (List.mem_filter.1 hh).2
  · rw [if_neg h]
    have hn : look st.L k = none := by simpa using h
    have hk : k ∉ keysS st.L := fun hh => by
      obtain ⟨e, he, e1⟩ := List.mem_map.1 hh
      exact look_none_k.1 hn e he e1
    by_cases hr : st.room ≤ st.L.length
    · rw [if_pos hr]
      have h1 := w.room
      cases hc : st.L with
      | nil => rw [hc] at hr; simp at hr; omega
      | cons e L =>
        have he : look st.L e.1 = some e := by rw [hc]; exact look_head
        have hd := (dropK_len w.keys he).1
        refine ⟨w.forget e.1, by show ((forgetS st e.1).L.length : Int) + 1 ≤ _; rw [forget_L he]; omega, ?_, (forget_last st e.1).1, (forget_last st e.1).2.1⟩
        show k ∉ keysS (forgetS st e.1).L
        rw [forget_L he, ← dropK_keys]
        exact fun hh => hk (List.mem_filter.1 hh).1
    · rw [if_neg hr]
      exact ⟨w, by omega, hk, rfl, rfl⟩
theorem NWf.put {st : NSt} (w : NWf st) (k : NKey) (n : Int) : NWf (putS st k n) := by
  obtain ⟨w1, h1, h2, h3, h4⟩ := roomS_room w k
  unfold putS
  refine ⟨w1.nest, w1.passed, w1.room, ?_, ?_, ?_, fun x hx => ?_, ?_⟩
  · show (((roomS st k).L ++ [(k, n, st.last + 1)]).length : Int) ≤ (roomS st k).room
    rw [List.length_append, h4]; simp only [List.length_singleton]; omega
  · show (keysS ((roomS st k).L ++ [(k, n, st.last + 1)])).Nodup
    unfold keysS
    rw [List.map_append, List.nodup_append]
    exact ⟨w1.keys, by simp, fun x hx y hy => by
      simp only [List.map_cons, List.map_nil, List.mem_singleton] at hy
      subst hy
      exact fun e => h2 (e ▸ hx)⟩
  · have p : ((((roomS st k).L ++ [(k, n, st.last + 1)]).map (fun e => e.2.2)) ++ (roomS st k).waits.map (·.1)).Perm ((st.last + 1) :: ((roomS st k).L.map (fun e => e.2.2) ++ (roomS st k).waits.map (·.1))) := by
      rw [List.map_append]
      simp only [List.map_cons, List.map_nil]
      rw [List.append_assoc]
      exact List.perm_middle
    rw [p.nodup_iff, List.nodup_cons]
    exact ⟨fun hh => by have := (w1.up _ hh).2; rw [h3] at this; omega, w1.ids⟩
  · have hx : x ∈ (((roomS st k).L ++ [(k, n, st.last + 1)]).map (fun e => e.2.2)) ++ (roomS st k).waits.map (·.1) := hx
    show 1 ≤ x ∧ x ≤ st.last + 1
    rw [List.map_append, List.append_assoc] at hx
    have hs := w.sum
    rcases List.mem_append.1 hx with hx | hx
    · have := w1.up x (List.mem_append_left _ hx); rw [h3] at this; omega
    · rcases List.mem_append.1 hx with hx | hx
      · simp only [List.map_cons, List.map_nil, List.mem_singleton] at hx; omega
      · have := w1.up x (List.mem_append_right _ hx); rw [h3] at this; omega
  · have hs := w1.sum
    show ((((roomS st k).L ++ [(k, n, st.last + 1)]).length : Int) + ((roomS st k).waits.length : Int)) ≤ st.last + 1
    rw [List.length_append]; simp only [List.length_singleton]; rw [h3] at hs; omega
theorem look_append {L : List KE} {k : NKey} (h : k ∉ keysS L) (n id : Int) : mpS (L ++ [(k, n, id)]) = upd (mpS L) k (some (.agg [.int .i64 n, .int .i64 id])) := by
  funext x
  by_cases e : x = k
  · subst e
    rw [upd_at]
    have : look (L ++ [(x, n, id)]) x = some (x, n, id) := by
      unfold look
      rw [List.find?_append, List.find?_eq_none.2 (fun y hy => by simpa using fun e => h (List.mem_map.2 ⟨y, hy, e⟩))]
      simp
    unfold mpS; rw [this]; rfl
  · rw [upd_ne _ _ e]
    have : look (L ++ [(k, n, id)]) x = look L x := by
      unfold look
      rw [List.find?_append]
      have hk : ¬ k = x := fun h => e h.symm
      simp [hk]
    unfold mpS; rw [this]
/-- All of a directory, one key after the other. -/
def fdL (dir : Int) : List NKey → NSt → Int → NSt × Int
  | [], st, n => (st, n)
  | k :: ks, st, n => if k.1 = dir then (if (look st.L k).isSome = true then fdL dir ks (forgetS st k) (n + 1) else fdL dir ks st n) else fdL dir ks st n
theorem fdL_wf (dir : Int) : ∀ (ks : List NKey) (st : NSt) (n : Int), NWf st → NWf (fdL dir ks st n).1 ∧ (fdL dir ks st n).1.last = st.last ∧ (fdL dir ks st n).1.room = st.room
  | [], st, n, w => ⟨w, rfl, rfl⟩
  | k :: ks, st, n, w => by
    rw [fdL]
    split
    · split
      · have := fdL_wf dir ks _ (n + 1) (w.forget k)
        exact ⟨this.1, this.2.1.trans (forget_last st k).1, this.2.2.trans (forget_last st k).2.1⟩
      · exact fdL_wf dir ks st n w
    · exact fdL_wf dir ks st n w
theorem bl114 (a b : Int) : buildL Tryd.prog 114 [(0, .int .i64 a), (1, .int .i64 b)] = some (.agg [.int .i64 a, .int .i64 b]) := nr (by kernel_rfl)
theorem bs51_1 (h : LHeap) (k : NKey) : buildSliceL Tryd.prog 51 1 [(0, .agg (nameE.f k))] h = some (.slice h.next 0 1 (.ex 1), h.alloc (.cells (nameE.f k) .ex)) := by
  have : ∀ a b, buildSliceL Tryd.prog 51 1 [(0, .agg [.int .i64 a, .str b])] h = some (.slice h.next 0 1 (.ex 1), h.alloc (.cells [.int .i64 a, .str b] .ex)) := fun a b => nr (by kernel_rfl)
  exact this k.1 k.2
section
variable {F : Nat → Prop} {g h : LHeap} {c d m n : Nat} {OV NV PV WV : LV} {st : NSt} {Zs : List Thing}
set_option maxHeartbeats 2000000 in
/-- Put. -/
theorem put_ok (Sp : Sep F g h (CTs c d m n OV NV PV WV st ++ Zs)) (w : NWf st) (hl : st.last < 2 ^ 42) (k : NKey) (x : Int) :
    Ok Tryd.prog 19 [.ptr c 0, .agg (nameE.f k), i x] h fun v h' => v = i (if x < 0 then 1 else 0) ∧ ∃ n' OV' WV', Sep F g h' (CTs c d m n' OV' NV PV WV' (if x < 0 then st else putS st k x) ++ Zs) := by
  refine ok19 fun wf _ => ?_
  have hn : newL (.agg (nameE.f k)) h = some (.ptr h.next 0, h.alloc (.cells (nameE.f k) .ex)) := new_agg _ _ (nameE.cell k)
  have S1 := Sp.new (nameE.f k)
  generalize ht : h.next = t3 at *
  generalize hh : h.alloc (.cells (nameE.f k) .ex) = h1 at *
  rw [List.append_assoc] at S1
  have xk : h1.get t3 = some (.cells (nameE.f k) .ex) := S1.cell (7 + Zs.length) ct_last
  have x1 := S1.cell (a := c) (vs := [.ptr d 0, i st.room, .map m, OV, i st.last]) 0 rfl
  have fin0 : ∀ {h' Ts}, Sep F g h' (Ts ++ (Zs ++ [Thing.cells t3 (nameE.f k)])) → Sep F g h' (Ts ++ Zs) := fun {h' Ts} hS => by
    rw [← List.append_assoc] at hS; exact hS.init
  simp (disch := omega) only [F19, J19_0, i, sh, sh2, hn]
  refine (made55_ok x1).mono ?_
  rintro _ h1 ⟨rfl, rfl⟩
  by_cases hx : x < 0
  · rw [if_pos hx, if_pos hx]
    simp (disch := omega) only [J19_1, i, sh, sh2, shi, dec]
    exact ⟨trivial, n, OV, WV, fin0 S1⟩
  rw [if_neg hx, if_neg hx]
  simp (disch := omega) only [J19_1, J19_2, i, sh, sh2, shi, dec, xk, name_cell]
  have tail : ∀ {h2 : LHeap} {n2 : Nat} {OV2 WV2 : LV}, Sep F g h2 (CTs c d m n2 OV2 NV PV WV2 (roomS st k) ++ (Zs ++ [Thing.cells t3 (nameE.f k)])) →
      J19_3 (.ptr c 0) (.int .i64 x) (.ptr t3 0) h2 fun v h' => v = i 0 ∧ ∃ n' OV' WV', Sep F g h' (CTs c d m n' OV' NV PV WV' (putS st k x) ++ Zs) := by
    intro h2 n2 OV2 WV2 S2
    obtain ⟨w1, r1, r2, r3, r4⟩ := roomS_room w k
    have rm := w.room
    have x2 := S2.cell (a := c) (vs := [.ptr d 0, i (roomS st k).room, .map m, OV2, i (roomS st k).last]) 0 rfl
    have hs := w.sum
    rw [r3] at x2
    have S3 := S2.store 0 rfl [.ptr d 0, i (roomS st k).room, .map m, OV2, i (st.last + 1)]
    have e1 : storeV 1 (.ptr c 4) (i (st.last + 1)) h2 = some (h2.set c (.cells [.ptr d 0, i (roomS st k).room, .map m, OV2, i (st.last + 1)] .ex)) := by rw [store_o _ _ _ rfl, x2]; rfl
    generalize h2.set c (.cells [.ptr d 0, i (roomS st k).room, .map m, OV2, i (st.last + 1)] .ex) = h3 at *
    have S3 : Sep F g h3 (CTg c d (roomS st k).room m (mpS (roomS st k).L) n2 OV2 (keysS (roomS st k).L) (st.last + 1) NV PV (roomS st k).nest (roomS st k).passed (roomS st k).ep WV2 (roomS st k).waits ++ (Zs ++ [Thing.cells t3 (nameE.f k)])) := S3
    have x3 := S3.cell (a := c) (vs := [.ptr d 0, i (roomS st k).room, .map m, OV2, i (st.last + 1)]) 0 rfl
    have xk3 : h3.get t3 = some (.cells (nameE.f k) .ex) := S3.cell (7 + Zs.length) ct_last
    obtain ⟨H4, n4, em, S4, f4⟩ := S3.mset' (P := Tryd.prog) nameK (mp := mpS (roomS st k).L) (n := n2) 1 rfl ty110 k (.agg [.int .i64 x, .int .i64 (st.last + 1)])
    have em : mapSetL Tryd.prog 110 (.map m) (.agg (nameE.f k)) (.agg [.int .i64 x, .int .i64 (st.last + 1)]) h3 = some H4 := em
    rw [← look_append r2] at S4
    have S4 : Sep F g H4 (CTg c d (roomS st k).room m (mpS ((roomS st k).L ++ [(k, x, st.last + 1)])) n4 OV2 (keysS (roomS st k).L) (st.last + 1) NV PV (roomS st k).nest (roomS st k).passed (roomS st k).ep WV2 (roomS st k).waits ++ (Zs ++ [Thing.cells t3 (nameE.f k)])) := S4
    have x4 := S4.cell (a := c) (vs := [.ptr d 0, i (roomS st k).room, .map m, OV2, i (st.last + 1)]) 0 rfl
    have xk4 : H4.get t3 = some (.cells (nameE.f k) .ex) := S4.cell (7 + Zs.length) ct_last
    have ll : (keysS (roomS st k).L).length = (roomS st k).L.length := List.length_map _
    obtain ⟨V5, h5, e5, S5, c5, _⟩ := S4.push (E := nameE) (V := OV2) (l := keysS (roomS st k).L) 2 rfl (bytes := 24) k (cs := nameE.f k) rfl (by rw [ll]; omega)
    have e5 : appendL 2 24 OV2 _ _ = _ := e5
    have bs := bs51_1 H4 k
    have ap := ap51 (V := OV2) (U := .slice H4.next 0 1 (.ex 1)) rfl (H4.alloc (.cells (nameE.f k) .ex))
    rw [e5] at ap
    have x4a : (H4.alloc (.cells (nameE.f k) .ex)).get c = some (.cells [.ptr d 0, i (roomS st k).room, .map m, OV2, i (st.last + 1)] .ex) := (get_alloc_ne _ _ (Nat.ne_of_lt (S4.lt (T := Thing.cells c [.ptr d 0, i (roomS st k).room, .map m, OV2, i (st.last + 1)]) 0 rfl (a := c) rfl))).trans x4
    have x5 := S5.cell (a := c) (vs := [.ptr d 0, i (roomS st k).room, .map m, OV2, i (st.last + 1)]) 0 rfl
    have S6 := S5.store 0 rfl [.ptr d 0, i (roomS st k).room, .map m, V5, i (st.last + 1)]
    have est : storeV 1 (.ptr c 3) V5 h5 = some (h5.set c (.cells [.ptr d 0, i (roomS st k).room, .map m, V5, i (st.last + 1)] .ex)) := by rw [store_o _ _ _ c5, x5]; rfl
    have bl := bl114 x (st.last + 1)
    have ek : keysS ((roomS st k).L ++ [(k, x, st.last + 1)]) = keysS (roomS st k).L ++ [k] := by unfold keysS; rw [List.map_append]; rfl
    simp only [i] at e1
    simp (disch := omega) only [J19_3, i, sh, sh2, shc, shi, dec, x2, e1, x3, xk3, name_cell, bl, em, x4, xk4, bs, x4a, ap, est]
    refine ⟨n4, V5, WV2, fin0 ?_⟩
    show Sep F g _ (CTg c d (roomS st k).room m (mpS ((roomS st k).L ++ [(k, x, st.last + 1)])) n4 V5 (keysS ((roomS st k).L ++ [(k, x, st.last + 1)])) (st.last + 1) NV PV (roomS st k).nest (roomS st k).passed (roomS st k).ep WV2 (roomS st k).waits ++ (Zs ++ [Thing.cells t3 (nameE.f k)]))
    rw [ek]
    exact S6
  refine ⟨(forget_ok S1 w hl k).mono ?_, trivial⟩
  rintro _ h2 ⟨rfl, n2, OV2, WV2, S2⟩
  simp only [i] at tail
  cases hlk : (look st.L k).isSome with
  | true =>
    have er : roomS st k = forgetS st k := by unfold roomS; rw [if_pos hlk]
    rw [er] at tail
    simp (disch := omega) only [i, sh, sh2, shi, dec, J19_4]
    exact tail S2
  | false =>
    have hnone : look st.L k = none := by simpa using hlk
    rw [forget_none hnone] at S2
    have x2 := S2.cell (a := c) (vs := [.ptr d 0, i st.room, .map m, OV2, i st.last]) 0 rfl
    have R2 := S2.row (E := nameE) (V := OV2) (l := keysS st.L) 2 rfl
    have hl2 := fun g' => R2.len (P := Tryd.prog) ty51 (g' := g')
    have ll : (keysS st.L).length = st.L.length := List.length_map _
    rw [ll] at hl2
    by_cases hr : st.room ≤ st.L.length
    · have h1 := w.room
      cases hc : st.L with
      | nil => rw [hc] at hr; simp at hr; omega
      | cons e L' =>
        have er : roomS st k = forgetS st e.1 := by
          unfold roomS
          rw [if_neg (by rw [hlk]; decide), if_pos hr, hc]
        rw [er] at tail
        have h0 : (keysS st.L)[0]? = some e.1 := by rw [hc]; rfl
        have ix := R2.ix (k := .i64) (i := 0) (by rw [ll, hc]; simp)
        have ld := R2.ld h0
        have e2 : nameE.e = 2 := rfl
        rw [e2] at ix ld
        have c0 : ((0 : Nat) : Int) = 0 := rfl
        rw [c0] at ix
        rw [hc] at hl2 hr
        simp (disch := omega) only [i, sh, sh2, shc, shi, dec, J19_4, x2, hl2, ix, ld]
        refine (forget_ok S2 w hl e.1).mono ?_
        rintro _ h3 ⟨rfl, n3, OV3, WV3, S3⟩
        exact tail S3
    · have er : roomS st k = st := by
        unfold roomS
        rw [if_neg (by rw [hlk]; decide), if_neg hr]
      rw [er] at tail
      simp (disch := omega) only [i, sh, sh2, shc, shi, dec, J19_4, x2, hl2]
      exact tail S2
/-- The names. -/
theorem kept_ok (Sp : Sep F g h (CTs c d m n OV NV PV WV st ++ Zs)) (w : NWf st) : Ok Tryd.prog 26 [.ptr c 0] h fun v h' => Row h' v nameE (keysS st.L) ∧ (∀ a, v.obj = some a → h.next ≤ a ∧ a < h'.next) ∧ Fr noF h h' := by
  refine ok26 fun wf _ => ?_
  have x := Sp.cell (a := c) (vs := [.ptr d 0, i st.room, .map m, OV, i st.last]) 0 rfl
  have R := Sp.row (E := nameE) (V := OV) (l := keysS st.L) 2 rfl
  simp only [F26]
  refine (made55_ok x).mono ?_
  rintro _ h ⟨rfl, rfl⟩
  have ll : (keysS st.L).length = st.L.length := List.length_map _
  have hL := w.len
  have hr := w.room
  simp (disch := omega) only [i, sh, sh2, shc, x]
  refine (clone62_ok R (by rw [ll]; omega)).mono ?_
  rintro v h' ⟨O, _, f⟩
  exact ⟨O.row, O.lo, f⟩
theorem agg2 (k : NKey) : ∃ N, newL (.agg [.int .i64 0, .str []]) h = some (.ptr h.next 0, N) ∧ storeV 2 (.ptr h.next 0) (.agg (nameE.f k)) N = some (h.alloc (.cells (nameE.f k) .ex)) := new_st59 h k
set_option maxHeartbeats 1000000 in
/-- ForgetDir. -/
theorem forgetDir_ok (Sp : Sep F g h (CTs c d m n OV NV PV WV st ++ Zs)) (w : NWf st) (hl : st.last < 2 ^ 42) (dir : Int) :
    Ok Tryd.prog 23 [.ptr c 0, i dir] h fun v h' => v = i (fdL dir (keysS st.L) st 0).2 ∧ ∃ n' OV' WV', Sep F g h' (CTs c d m n' OV' NV PV WV' (fdL dir (keysS st.L) st 0).1 ++ Zs) := by
  refine ok23 fun wf _ => ?_
  simp only [F23, J23_0, J23_1]
  refine (kept_ok Sp w).mono ?_
  rintro U h1 ⟨RU, loU, f1⟩
  have S1 := Sp.pure f1
  have ll : (keysS st.L).length = st.L.length := List.length_map _
  have hL := w.len
  have hr := w.room
  have hlU := fun g' => RU.len (P := Tryd.prog) ty51 (g' := g')
  rw [ll] at hlU
  simp (disch := omega) only [i, sh, sh2, b_len, hlU, J23_3]
  generalize hfin : fdL dir (keysS st.L) st 0 = fin
  have ltZ : ∀ T ∈ CTs c d m n OV NV PV WV st ++ Zs, ∀ a, T.own a → a < h.next := fun T hT a ha => (Sp.lo T hT a ha).2
  refine loop_n (fun n2 (s : LV × LV) h' => ∃ (j : Nat) (cnt : Int) (cur : NSt) (n' : Nat) (OV' WV' : LV), s = (i cnt, i (j : Int)) ∧ j + n2 = st.L.length ∧ 0 ≤ cnt ∧ cnt ≤ j ∧ NWf cur ∧ cur.last = st.last ∧ fdL dir ((keysS st.L).drop j) cur cnt = fin ∧ Sep F g h' (CTs c d m n' OV' NV PV WV' cur ++ (Zs ++ [Thing.row nameE U (keysS st.L)]))) (n := st.L.length)
    ⟨0, 0, st, n, OV, WV, rfl, by omega, by omega, by omega, w, rfl, by rw [List.drop_zero]; exact hfin, by
      rw [← List.append_assoc]
      exact Sp.add (Thing.row nameE U (keysS st.L)) f1 RU fun a ha => loU a ha⟩ ?_
  rintro n2 s h' ⟨j, cnt, cur, n', OV', WV', rfl, hj, h0, h1', wc, hlast, hfd, Sj⟩
  have RUj : Row h' U nameE (keysS st.L) := Sj.at (T := Thing.row nameE U (keysS st.L)) (7 + Zs.length) ct_last
  cases n2 with
  | zero =>
    obtain rfl : j = st.L.length := by omega
    rw [List.drop_of_length_le (by rw [ll]; exact Nat.le_refl _)] at hfd
    simp (disch := omega) only [L23_4, J23_2, i, sh, sh2, shi, dec]
    rw [← hfd]
    refine ⟨rfl, n', OV', WV', ?_⟩
    rw [← List.append_assoc] at Sj
    exact Sj.init
  | succ n2 =>
    obtain ⟨k, hk, hd⟩ := drop_at (l := keysS st.L) (k := j) (by rw [ll]; omega)
    rw [hd, fdL] at hfd
    have ix := RUj.ix (k := .i64) (i := j) (by rw [ll]; omega)
    have ld := RUj.ld hk
    have e2 : nameE.e = 2 := rfl
    rw [e2] at ix ld
    obtain ⟨N, w1, w2⟩ := agg2 (h := h') k
    have St := Sj.temp (.cells (nameE.f k) .ex)
    have xc : (h'.alloc (.cells (nameE.f k) .ex)).get h'.next = some (.cells (nameE.f k) .ex) := get_alloc_eq _ _
    have f0 : (nameE.f k)[0]? = some (.int .i64 k.1) := rfl
    have c0 : cellO none 0 (some (.cells (nameE.f k) .ex)) = some (.int .i64 k.1) := rfl
    by_cases hdir : k.1 = dir
    · rw [if_pos hdir] at hfd
      simp (disch := omega) only [L23_4, i, sh, sh2, shi, dec, ix, ld, w1, w2, xc, f0, c0, name_cell]
      refine (forget_ok St wc (by omega) k).mono ?_
      rintro _ h5 ⟨rfl, n5, OV5, WV5, S5⟩
      cases hlk : (look cur.L k).isSome with
      | true =>
        rw [if_pos hlk] at hfd
        simp (disch := omega) only [i, sh, sh2, shi, dec]
        exact ⟨n2, by omega, j + 1, cnt + 1, forgetS cur k, n5, OV5, WV5, by simp, by omega, by omega, by omega, wc.forget k, (forget_last cur k).1.trans hlast, hfd, S5⟩
      | false =>
        rw [if_neg (by rw [hlk]; decide)] at hfd
        rw [forget_none (by simpa using hlk)] at S5
        simp (disch := omega) only [i, sh, sh2, shi, dec]
        exact ⟨n2, by omega, j + 1, cnt, cur, n5, OV5, WV5, by simp, by omega, by omega, by omega, wc, hlast, hfd, S5⟩
    · rw [if_neg hdir] at hfd
      simp (disch := omega) only [L23_4, i, sh, sh2, shi, dec, ix, ld, w1, w2, xc, f0, c0]
      exact ⟨n2, by omega, j + 1, cnt, cur, n', OV', WV', by simp, by omega, by omega, by omega, wc, hlast, hfd, St⟩
end
end Go.Proofs.YthinkofjbabfbaaDoor
