/-
  tlb: Fill, Look, Kept, Open, Harts.
-/
import Derived.Test.YtgncgokjbakdmaaTl4
set_option linter.all false
namespace Go.Proofs.Ytgncgokjbakdmaa
open Go.ChangeShapes Go.WideShapes Go.ChangeAt Go.RowKit Go.Lm
set_option linter.unusedSimpArgs false
section
variable {F : Nat → Prop} {g h h' : LHeap} {t om no k : Nat} {size begun : Int} {HS : LV} {op : Int → Option LV} {hs : List HX} {x : HX} {Zs : List Thing} {st : TSt} {S : Nat → Prop}
set_option maxRecDepth 10000 in
theorem bs50_1 (h : LHeap) (q : AKey) : buildSliceL Try.prog 50 1 [(0, .agg (keyE.f q))] h = some (.slice h.next 0 1 (.ex 1), h.alloc (.cells (keyE.f q) .ex)) := by
  obtain ⟨a, b⟩ := q
  show buildSliceL Try.prog 50 1 [(0, .agg [i a, i b])] h = some (.slice h.next 0 1 (.ex 1), h.alloc (.cells [i a, i b] .ex))
  kernel_rfl
theorem TWf.setH (tw : TWf st) {k : Nat} {l : List KEnt} (h1 : (l.map (·.1)).Nodup) (h2 : l.length ≤ st.size) : TWf { st with harts := st.harts.set k l } := by
  refine ⟨tw.s1, tw.s2, by simpa using tw.h8, fun l' hl' => ?_, tw.b0, tw.b1, tw.no, fun id s hs' => by simpa using tw.op id s hs'⟩
  rcases List.mem_or_eq_of_mem_set hl' with h | rfl
  · exact tw.nd l' h
  · exact ⟨h1, h2⟩
theorem fillK_wf {l : List KEnt} {size : Int} (h1 : (l.map (·.1)).Nodup) (h2 : l.length ≤ size) (hs : 1 ≤ size) (q : AKey) (e : Int) : ((fillK size l q e).map (·.1)).Nodup ∧ (fillK size l q e).length ≤ size := by
  unfold fillK
  by_cases hq : q ∈ l.map (·.1)
  · rw [if_pos hq, setK_keys]
    exact ⟨h1, by simpa [setK] using h2⟩
  · rw [if_neg hq]
    by_cases hf : size ≤ l.length
    · rw [if_pos hf, List.map_append, List.nodup_append]
      refine ⟨⟨h1.sublist ((List.drop_sublist 1 l).map _), by simp, fun a ha b hb => ?_⟩, by simp; omega⟩
      simp only [List.map_cons, List.map_nil, List.mem_singleton] at hb
      subst hb
      intro e
      subst e
      obtain ⟨y, hy, rfl⟩ := List.mem_map.1 ha
      exact hq (List.mem_map.2 ⟨y, List.mem_of_mem_drop hy, rfl⟩)
    · rw [if_neg hf, List.map_append, List.nodup_append]
      refine ⟨⟨h1, by simp, fun a ha b hb => ?_⟩, by simp; omega⟩
      simp only [List.map_cons, List.map_nil, List.mem_singleton] at hb
      subst hb
      intro e
      exact hq (e ▸ ha)
set_option maxRecDepth 4000 in
/-- The end of Fill: the entry is laid under its key. -/
theorem fill_end {c a off : Nat} {q : AKey} {e : Int} (Sp : Sep F g h (TlTs t size HS begun om op no hs ++ [Thing.cells c (keyE.f q)])) (hk : hs[k]? = some x) (hat : HS.at 2 k = .ptr a off) (cV : x.V.cell = true) {K : LV → LHeap → Prop}
    (hK : ∀ h' n', Sep F g h' (TlTs t size HS begun om op no (hs.set k { x with mp := upd x.mp q (some (u32V e)), n := n' })) → K (i 0) h') : J20_4 (u32V e) (.ptr c 0) (.ptr a off) h K := by
  have hd : (hs.map HX.hd)[k]? = some (x.m, x.V) := by rw [List.getElem?_map, hk]; rfl
  obtain ⟨_, a', off', hat', l0, l1⟩ := hd_at Sp rfl hd cV
  rw [hat] at hat'
  cases hat'
  have xc := Sp.cell (TlTs t size HS begun om op no hs).length (a := c) (vs := keyE.f q) (by simp)
  obtain ⟨H, es, S1, f1⟩ := Sp.mset keyK (3 + k) (tz_m hk) ty94 q (u32V e)
  rw [tz_set_m hk] at S1
  rw [keyK_f] at es
  simp (disch := omega) only [J20_4, sh, sh2, l0, xc, key_o, es, shc]
  exact hK _ _ S1.init
set_option maxRecDepth 4000 in
theorem Fill_ok (B : (TBox t S st).ok g) (lt : ∀ a, S a → a < g.next) (a : Int) (q : AKey) (e : Int) : Ok Try.prog 20 [.ptr t 0, i a, .agg (keyE.f q), u32V e] g fun v h =>
    (¬ (0 ≤ a ∧ a < st.harts.length) ∧ v = i 1 ∧ After (TD t) S g h st) ∨
    (∃ (k : Nat) (l : List KEnt), a = k ∧ st.harts[k]? = some l ∧ v = i 0 ∧ After (TD t) S g h { st with harts := st.harts.set k (fillK st.size l q e) }) := by
  refine ok20 fun wf _ => ?_
  obtain ⟨Ts, ⟨HS, om, hs, rfl, ok, tw⟩, Sp⟩ := box_open B lt
  have S1 := Sp.new (keyE.f q)
  simp (disch := omega) only [F20, J20_0, J20_1, i, sh, new_key, nil_p ty36 true]
  refine (is_ok S1.init a).mono ?_
  rintro _ _ ⟨rfl, rfl⟩
  have hln : hs.length = st.harts.length := ok.len
  by_cases hr : 0 ≤ a ∧ a < st.harts.length
  rotate_left
  · have hd : decide (0 ≤ a ∧ a < hs.length) = false := by simp; omega
    rw [hd]
    simp (disch := omega) only [sh, sh2]
    exact .inl ⟨hr, trivial, S1.init.after ⟨HS, om, hs, rfl, ok, tw⟩⟩
  obtain ⟨k, rfl⟩ := Int.eq_ofNat_of_zero_le hr.1
  obtain ⟨l, hl⟩ := kept_of (st := st) (k := k) (by omega)
  obtain ⟨x, hx, ho, hm⟩ := hs_get ok hl
  have hkl := (List.getElem?_eq_some_iff.1 hx).1
  have x0 := S1.cell 0 rfl
  have xq := S1.cell (TlTs t st.size HS st.begun om (fun id => (st.opn id).map shV) st.nopn hs).length (a := g.next) (vs := keyE.f q) (by simp)
  have ix := (S1.row (V := HS) 1 rfl).ix (k := .i64) (i := k) (by rw [List.length_map]; omega)
  have e2 : hdE.e = 2 := rfl
  rw [e2] at ix
  have hd : decide (0 ≤ (k : Int) ∧ (k : Int) < hs.length) = true := by simp; omega
  have tl := tw.nd l (List.mem_of_getElem? hl)
  have ts := tw.s2
  have ts1 := tw.s1
  have hol : x.ord.length = l.length := by rw [ho, List.length_map]
  have RV := S1.row (3 + hs.length + k) (V := x.V) (E := keyE) (l := x.ord) (tz_v hx)
  have cV := RV.cell
  have hdd : (hs.map HX.hd)[k]? = some (x.m, x.V) := by rw [List.getElem?_map, hx]; rfl
  obtain ⟨_, pa, po, hat, l0, l1⟩ := hd_at S1 rfl hdd cV
  have hlk := (S1.at (3 + k) (tz_m hx)).lookup (P := Try.prog) keyK ty94 zr42 q true
  rw [keyK_f] at hlk
  have hlm : x.mp q = (lkp l q).map u32V := by rw [hm]
  rw [hd]
  have fin : ∀ {x' : HX} {h2 : LHeap} {v : LV}, x'.ord = (fillK st.size l q e).map (·.1) → x'.mp = (fun q' => (lkp (fillK st.size l q e) q').map u32V) → Sep S g h2 (TlTs t st.size HS st.begun om (fun id => (st.opn id).map shV) st.nopn (hs.set k x')) → v = i 0 →
      (¬ (0 ≤ (k : Int) ∧ (k : Int) < st.harts.length) ∧ v = i 1 ∧ After (TD t) S g h2 st) ∨ (∃ (k' : Nat) (l' : List KEnt), (k : Int) = k' ∧ st.harts[k']? = some l' ∧ v = i 0 ∧ After (TD t) S g h2 { st with harts := st.harts.set k' (fillK st.size l' q e) }) := by
    intro x' h2 v h3 h4 S2 hv
    have hw := fillK_wf (size := st.size) tl.1 tl.2 ts1 q e
    exact .inr ⟨k, l, rfl, hl, hv, S2.after ⟨HS, om, _, rfl, ok.set k ⟨h3, h4⟩, tw.setH hw.1 hw.2⟩⟩
  by_cases hq : q ∈ l.map (·.1)
  · obtain ⟨ev, hev⟩ := Option.isSome_iff_exists.1 (lkp_iff.2 hq)
    rw [hlm, hev] at hlk
    have hlk : lookupL Try.prog 94 (.map x.m) (.agg (keyE.f q)) true (g.alloc (.cells (keyE.f q) .ex)) = some (.tuple [u32V ev, .bool true]) := hlk
    simp (disch := omega) only [J20_2, J20_3, J20_5, J20_6, sh, sh2, x0, i, ix, hat, l0, xq, key_o, hlk]
    refine fill_end S1 hx hat cV fun h2 n' S2 => ?_
    refine fin ?_ ?_ S2 rfl
    · simp only [fillK, if_pos hq, setK_keys]; exact ho
    · funext q'
      simp only [fillK, if_pos hq, lkp_setK l q e q' hq]
      by_cases hqq : q' = q
      · subst hqq; rw [upd_at]; simp
      · rw [upd_ne _ _ hqq, hm, if_neg hqq]
  have hev := lkp_none hq
  rw [hlm, hev] at hlk
  have hlk : lookupL Try.prog 94 (.map x.m) (.agg (keyE.f q)) true (g.alloc (.cells (keyE.f q) .ex)) = some (.tuple [.int .u32 0, .bool false]) := hlk
  have hlo := RV.len (P := Try.prog) ty50
  -- what is appended to, and laid
  have push : ∀ {x' : HX} {h2 : LHeap}, x'.ord.length ≤ 64 → x'.ord ++ [q] = (fillK st.size l q e).map (·.1) → (fun q' => upd x'.mp q (some (u32V e)) q') = (fun q' => (lkp (fillK st.size l q e) q').map u32V) →
      Sep S g h2 (TlTs t st.size HS st.begun om (fun id => (st.opn id).map shV) st.nopn (hs.set k x') ++ [Thing.cells g.next (keyE.f q)]) →
      J20_7 (u32V e) (.ptr g.next 0) (.ptr pa po) h2 fun v h => (¬ (0 ≤ (k : Int) ∧ (k : Int) < st.harts.length) ∧ v = i 1 ∧ After (TD t) S g h st) ∨ (∃ (k' : Nat) (l' : List KEnt), (k : Int) = k' ∧ st.harts[k']? = some l' ∧ v = i 0 ∧ After (TD t) S g h { st with harts := st.harts.set k' (fillK st.size l' q e) }) := by
    intro x' h2 hol' h3 h4 S2
    have hx' : (hs.set k x')[k]? = some x' := by rw [List.getElem?_set_self hkl]
    have hln' : (hs.set k x').length = hs.length := by simp
    have iv2 := tz_v (t := t) (size := st.size) (HS := HS) (begun := st.begun) (om := om) (op := fun id => (st.opn id).map shV) (no := st.nopn) (Zs := [Thing.cells g.next (keyE.f q)]) hx'
    have cV2 := (S2.row (V := x'.V) (E := keyE) (l := x'.ord) _ iv2).cell
    have hdd2 : ((hs.set k x').map HX.hd)[k]? = some (x'.m, x'.V) := by rw [List.getElem?_map, hx']; rfl
    obtain ⟨_, a2, o2, hat2, l20, l21⟩ := hd_at S2 rfl hdd2 cV2
    rw [hat] at hat2
    cases hat2
    have xq2 := S2.cell (TlTs t st.size HS st.begun om (fun id => (st.opn id).map shV) st.nopn (hs.set k x')).length (a := g.next) (vs := keyE.f q) (by simp)
    obtain ⟨_, a3, o3, hat3, l30, l31⟩ := hd_at (S2.temp (.cells (keyE.f q) .ex)) rfl hdd2 cV2
    rw [hat] at hat3
    cases hat3
    obtain ⟨V', h4', ea, S4, c4, _, _⟩ := S2.push (bytes := 16) (3 + (hs.set k x').length + k) iv2 q (cs := keyE.f q) rfl (by omega)
    have ea : appendL 2 16 x'.V (.slice h2.next 0 1 (.ex 1)) (h2.alloc (.cells (keyE.f q) .ex)) = some (V', h4') := ea
    have i1 : ((TlTs t st.size HS st.begun om (fun id => (st.opn id).map shV) st.nopn (hs.set k x') ++ [Thing.cells g.next (keyE.f q)]).set (3 + (hs.set k x').length + k) (Thing.vec keyE V' (x'.ord ++ [q])))[1]? = some (Thing.vec hdE HS ((hs.set k x').map HX.hd)) := by
      rw [List.getElem?_set_ne (by omega)]; rfl
    obtain ⟨a5, o5, h5, hat5, est, S5, _, _⟩ := S4.stf 1 i1 (k := k) (j := 1) (x'.m, V') (v := V') c4 hdd2 (by decide) (by simp [hdE, c4])
    rw [e2, hat] at hat5
    cases hat5
    rw [tz_set_v hx', List.set_set] at S5
    have eap := ap50 (V := x'.V) (U := .slice h2.next 0 1 (.ex 1)) rfl (h2.alloc (.cells (keyE.f q) .ex))
    simp (disch := omega) only [J20_7, i, sh, sh2, l21, xq2, key_o, bs50_1, l31, eap, ea, est, shc]
    have hx5 : (hs.set k { x' with V := V', ord := x'.ord ++ [q] })[k]? = some { x' with V := V', ord := x'.ord ++ [q] } := by rw [List.getElem?_set_self hkl]
    refine fill_end S5 hx5 hat c4 fun h6 n' S6 => ?_
    rw [List.set_set] at S6
    exact fin h3 h4 S6 rfl
  by_cases hf : st.size ≤ l.length
  · have hl1 : 1 ≤ l.length := by omega
    obtain ⟨p0, l', rfl⟩ : ∃ p0 l', l = p0 :: l' := by cases l with | nil => simp at hl1 | cons a b => exact ⟨a, b, rfl⟩
    have hord0 : x.ord[0]? = some p0.1 := by rw [ho]; rfl
    have ix0 := RV.ix (k := .i64) (i := 0) (by omega)
    have ld0 := RV.ld hord0
    have ek : keyE.e = 2 := rfl
    rw [ek] at ix0 ld0
    have ix0 : ixAddrL none 2 x.V (.int .i64 0) = some (x.V.at 2 0) := ix0
    obtain ⟨H, ed, S2, f2⟩ := S1.mdel keyK (3 + k) (tz_m hx) ty94 p0.1 [41]
    rw [tz_set_m hx] at S2
    rw [keyK_f] at ed
    obtain ⟨x2, e2m, e2V, e2o, e2p, S2⟩ : ∃ x2 : HX, x2.m = x.m ∧ x2.V = x.V ∧ x2.ord = x.ord ∧ x2.mp = upd x.mp p0.1 none ∧ Sep S g H (TlTs t st.size HS st.begun om (fun id => (st.opn id).map shV) st.nopn (hs.set k x2) ++ [Thing.cells g.next (keyE.f q)]) := ⟨{ x with mp := upd x.mp p0.1 none, n := _ }, rfl, rfl, rfl, rfl, S2⟩
    have hx2 : (hs.set k x2)[k]? = some x2 := by rw [List.getElem?_set_self hkl]
    have iv2 := tz_v (t := t) (size := st.size) (HS := HS) (begun := st.begun) (om := om) (op := fun id => (st.opn id).map shV) (no := st.nopn) (Zs := [Thing.cells g.next (keyE.f q)]) hx2
    have hdd2 : ((hs.set k x2).map HX.hd)[k]? = some (x2.m, x2.V) := by rw [List.getElem?_map, hx2]; rfl
    obtain ⟨_, a2, o2, hat2, l20, l21⟩ := hd_at S2 rfl hdd2 (by rw [e2V]; exact cV)
    rw [hat] at hat2
    cases hat2
    simp (disch := omega) only [J20_2, J20_3, J20_5, J20_6, sh, sh2, shi, dec, x0, i, ix, hat, l0, l1, xq, key_o, hlk, hlo, ix0, ld0, ed, l21, shc]
    obtain ⟨R2, G2, M2⟩ := S2.at _ iv2
    refine (delete45_ok (a := 0) (b := 1) R2 G2 M2 (by decide) (by rw [e2o]; omega) (by rw [e2o]; omega) (by rw [e2o]; omega)).mono ?_
    rintro V' h4 ⟨R4, G4, M4, f4, o4⟩
    have S4 := S2.put _ iv2 (Thing.vec keyE V' (x2.ord.take 0 ++ x2.ord.drop 1)) f4 ⟨R4, G4, M4⟩ fun b hb => ⟨.inl (o4 b hb), Nat.lt_of_lt_of_le (S2.lt _ iv2 (a := b) (o4 b hb)) f4.le⟩
    have c4 := R4.cell
    have i1 := (List.getElem?_set_ne (l := TlTs t st.size HS st.begun om (fun id => (st.opn id).map shV) st.nopn (hs.set k x2) ++ [Thing.cells g.next (keyE.f q)]) (a := Thing.vec keyE V' (x2.ord.take 0 ++ x2.ord.drop 1)) (i := 3 + (hs.set k x2).length + k) (j := 1) (by omega)).trans (rfl : _ = some (Thing.vec hdE HS ((hs.set k x2).map HX.hd)))
    obtain ⟨a5, o5, h5, hat5, est, S5, _, _⟩ := S4.stf 1 i1 (k := k) (j := 1) (x2.m, V') (v := V') c4 hdd2 (by decide) (by simp [hdE, c4])
    rw [e2, hat] at hat5
    cases hat5
    rw [tz_set_v hx2, List.set_set] at S5
    simp (disch := omega) only [i, sh, sh2, est]
    have hfe : fillK st.size (p0 :: l') q e = l' ++ [(q, e)] := by unfold fillK; rw [if_neg hq, if_pos hf]; rfl
    refine push ?_ ?_ ?_ S5
    · simp only [List.take_zero, List.nil_append, List.length_drop, e2o]; omega
    · rw [hfe]; simp only [List.take_zero, List.nil_append, e2o, ho, List.map_append, List.map_cons, List.map_nil, List.drop_succ_cons, List.drop_zero]
    · funext q'
      rw [hfe]
      simp only [e2p, lkp_app, lkp_tail tl.1]
      by_cases hqq : q' = q
      · subst hqq
        rw [upd_at, hev]
        by_cases h0 : q' = p0.1 <;> simp [h0]
      · rw [upd_ne _ _ hqq]
        by_cases h0 : q' = p0.1
        · subst h0; rw [upd_at]; simp [Ne.symm hqq]
        · rw [upd_ne _ _ h0, hm]; simp [h0, Ne.symm hqq]
  · simp (disch := omega) only [J20_2, J20_3, J20_5, J20_6, sh, sh2, shi, dec, x0, i, ix, hat, l0, l1, xq, key_o, hlk, hlo]
    have S1' : Sep S g (g.alloc (.cells (keyE.f q) .ex)) (TlTs t st.size HS st.begun om (fun id => (st.opn id).map shV) st.nopn (hs.set k x) ++ [Thing.cells g.next (keyE.f q)]) := by
      have e : hs.set k x = hs := by
        obtain ⟨hb, rfl⟩ := List.getElem?_eq_some_iff.1 hx
        exact List.set_getElem_self hb
      rw [e]; exact S1
    refine push ?_ ?_ ?_ S1'
    · omega
    · simp only [ho, fillK, if_neg hq, if_neg hf, List.map_append, List.map_cons, List.map_nil]
    · funext q'
      simp only [fillK, if_neg hq, if_neg hf, lkp_app]
      by_cases hqq : q' = q
      · subst hqq; rw [upd_at, hev]; simp
      · rw [upd_ne _ _ hqq, hm]; simp [Ne.symm hqq]
end
end Go.Proofs.Ytgncgokjbakdmaa
