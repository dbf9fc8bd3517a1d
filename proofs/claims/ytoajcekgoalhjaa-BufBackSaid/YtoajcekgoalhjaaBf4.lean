/-
  disk: Flush, Crash, New.
-/
import Derived.Test.YtoajcekgoalhjaaBf3
set_option linter.all false
namespace Go.Proofs.Ytoajcekgoalhjaa
open Go.ChangeShapes Go.WideShapes Go.ChangeAt Go.RowKit Go.Lm
set_option linter.unusedSimpArgs false
set_option maxRecDepth 10000
theorem cp33 {W U : LV} (g : LHeap) : builtinL Try.prog .copy [33, 33] [W, U] g = copyL 1 W U g := by
  have e : builtinL Try.prog .copy [33, 33] [W, U] g = if 1 = 0 ∨ (U.isStr = true ∧ (1 : Nat) ≠ 1) then none else copyL 1 W U g := nr (by kernel_rfl)
  rw [e, if_neg (by simp)]
theorem new_w (h : LHeap) (n : Int) (V : LV) (hV : V.cell = true) : ∃ N, newL (.agg [.int .i64 0, .nils]) h = some (.ptr h.next 0, N) ∧ storeV 2 (.ptr h.next 0) (.agg [.int .i64 n, V]) N = some (h.alloc (.cells [.int .i64 n, V] .ex)) := by
  refine ⟨_, new_agg _ _ (by simp [LV.cell]), ?_⟩
  simp only [sh2, shc, i, hV]
section
variable {F : Nat → Prop} {g h h' : LHeap} {d k : Nat} {c : DC} {pl : List Int} {ws : List WX} {Zs : List Thing} {st : DSt} {S : Nat → Prop}
theorem clear_ok (Sp : Sep F g h (DkTs d c pl ws)) : Ok Try.prog 74 [.ptr d 0] h fun v h' => v = .tuple [] ∧ ∃ c', Sep F g h' (DkTs d c' pl []) := by
  refine ok74 fun _ _ => ?_
  have x0 := Sp.cell 0 rfl
  have S1 := Sp.store 0 rfl [c.PV, .nils, .map c.om, .bool false, i c.lf, i c.r, i c.w, i c.f]
  have S2 := S1.newMap (κ := Int) intK.k
  have x2 := S2.cell (a := d) (vs := [c.PV, .nils, .map c.om, .bool false, i c.lf, i c.r, i c.w, i c.f]) 0 rfl
  have S3 := S2.store (a := d) (vs := [c.PV, .nils, .map c.om, .bool false, i c.lf, i c.r, i c.w, i c.f]) 0 rfl [c.PV, .nils, .map h.next, .bool false, i c.lf, i c.r, i c.w, i c.f]
  simp only [i] at x0 x2
  simp (disch := omega) only [F74, sh, sh2, shs, x0, i, LHeap.next_alloc, LHeap.next_set, x2]
  refine ⟨trivial, { c with QV := .nils, om := h.next, nm := 0 }, ?_⟩
  have S4 := (S3.sub (Us := [Thing.cells d [c.PV, .nils, .map h.next, .bool false, i c.lf, i c.r, i c.w, i c.f], Thing.vec byteE c.PV pl, Thing.map h.next intK.k (fun _ => none) 0]) (.cons₂ _ (.cons₂ _ (.cons _ (.cons _ (List.sublist_append_right (ws.map WX.vT) _)))))).nils wrE
  have S5 := S4.perm (Us := [Thing.cells d [c.PV, .nils, .map h.next, .bool false, i c.lf, i c.r, i c.w, i c.f], Thing.vec byteE c.PV pl, Thing.vec wrE .nils [], Thing.map h.next intK.k (fun _ => none) 0]) (.cons _ (.cons _ (.swap _ _ _)))
  exact S5
/-- A sector's bytes are laid down. -/
theorem lay_ok (Sp : Sep F g h (DkTs d c pl ws)) {w : WX} (hw : w ∈ ws) (hn : w.n.toNat * 512 + 512 ≤ pl.length) (hb : w.b.length = 512) {W : LV} (p : Part 1 c.PV (w.n.toNat * 512) 512 W) :
    ∃ H, builtinL Try.prog .copy [33, 33] [W, w.V] h = some (i 512, H) ∧ Sep F g H (DkTs d c (putS pl w.pr) ws) := by
  have Sp0 : Sep F g h (DkTs d c pl ws ++ []) := by rw [List.append_nil]; exact Sp
  have p' : Part 1 c.PV (w.n.toNat * 512) w.b.length W := by rw [hb]; exact p
  obtain ⟨H, ec, S1, _, _⟩ := Sp.copy (V := c.PV) (E := byteE) (l := pl) 1 rfl (m := w.b) p' (dk_row hw Sp0) (by rw [hb]; exact hn)
  have hE : byteE.e = 1 := rfl
  rw [hE, hb] at ec
  rw [hb] at S1
  exact ⟨H, by rw [cp33]; exact ec, S1⟩
theorem Flush_ok (B : (DBox d S st).ok g) (lt : ∀ a, S a → a < g.next) (hp : st.pd.length < 2 ^ 60) : Ok Try.prog 40 [.ptr d 0] g fun v h => v = i st.pd.length ∧ ∃ S', Sep S g h [DBox d S' st.fl] := by
  refine ok40 fun wf _ => ?_
  obtain ⟨Ts, ⟨c, ws, rfl, hpd, dw⟩, Sp⟩ := box_open B lt
  have Sp0 : Sep S g g (DkTs d c st.pl ws ++ []) := by rw [List.append_nil]; exact Sp
  simp (disch := omega) only [F40, J40_0, sh, sh2, nil_p ty23 true, i]
  refine (does_ok Sp0).mono ?_
  rintro _ g ⟨rfl, rfl⟩
  have x0 := Sp.cell 0 rfl
  have hln : (ws.map WX.hd).length = st.pd.length := by rw [← hpd, List.length_map, List.length_map]
  have hl := (Sp.row (V := c.QV) 2 rfl).len (P := Try.prog) ty86
  rw [hln] at hl
  simp (disch := omega) only [J40_1, J40_3, sh, sh2, x0, b_len, hl]
  refine loop_n (fun n s h => ∃ k : Nat, s = i (k : Int) ∧ k + n = st.pd.length ∧ Sep S g h (DkTs d c ((st.pd.take k).foldl putS st.pl) ws)) (n := st.pd.length) ⟨0, rfl, by omega, Sp⟩ ?_
  rintro n s h ⟨k, rfl, hk, Sk⟩
  cases n with
  | zero =>
    have x1 := Sk.cell 0 rfl
    simp (disch := omega) only [L40_4, J40_2, i, sh, sh2, shi, dec, x1, b_len, hl]
    refine (clear_ok Sk).mono ?_
    rintro _ h2 ⟨rfl, c', S2⟩
    have x2 := S2.cell 0 rfl
    have S3 := S2.store 0 rfl [c'.PV, c'.QV, .map c'.om, .bool false, i c'.lf, i c'.r, i c'.w, i (IntKind.i64.wrap (c'.f + 1))]
    simp (disch := omega) only [sh, sh2, shs, x2, binL_add_int]
    refine ⟨trivial, ?_⟩
    have S4 : Sep S g (h2.set d (.cells [c'.PV, c'.QV, .map c'.om, .bool false, i c'.lf, i c'.r, i c'.w, i (IntKind.i64.wrap (c'.f + 1))] .ex)) (DkTs d { c' with f := IntKind.i64.wrap (c'.f + 1) } st.fl.pl []) := by
      have : st.fl.pl = (st.pd.take k).foldl putS st.pl := by rw [List.take_of_length_le (by omega)]; rfl
      rw [this]
      exact S3
    exact S4.boxed (Ts := []) (D := DkD d) (x := st.fl) ⟨_, _, rfl, rfl, dw.fl⟩
  | succ n =>
    have hkl : k < ws.length := by rw [List.length_map] at hln; omega
    have hw : ws[k]? = some ws[k] := List.getElem?_eq_getElem hkl
    generalize ws[k] = w at hw
    have hwm : w ∈ ws := List.mem_of_getElem? hw
    have hpk : st.pd[k]? = some w.pr := by rw [← hpd, List.getElem?_map, hw]; rfl
    have hwd := dw.pd w.pr (List.mem_of_getElem? hpk)
    have hpl : ((st.pd.take k).foldl putS st.pl).length = 512 * st.cnt := by
      rw [fold_len _ _ fun v hv => ⟨(dw.pd v (List.mem_of_mem_take hv)).2.2, by have := dw.pd v (List.mem_of_mem_take hv); have := dw.pl; omega⟩]
      exact dw.pl
    have c2 := dw.c2
    have hh : (ws.map WX.hd)[k]? = some (w.n, w.V) := by rw [List.getElem?_map, hw]; rfl
    have hix := (Sk.row (V := c.QV) 2 rfl).ix (k := .i64) (i := k) (by rw [List.length_map]; omega)
    have hld := (Sk.row (V := c.QV) 2 rfl).ld hh
    have he : wrE.e = 2 := rfl
    have Sk0 : Sep S g h (DkTs d c ((st.pd.take k).foldl putS st.pl) ws ++ []) := by rw [List.append_nil]; exact Sk
    have cV : w.V.cell = true := (dk_row hwm Sk0).cell
    rw [he] at hix hld
    have hf : wrE.f (w.n, w.V) = [.int .i64 w.n, w.V] := by simp [wrE, cV]
    rw [hf] at hld
    obtain ⟨N, hn1, hn2⟩ := new_w h w.n w.V cV
    have S1 := Sk.temp (.cells [.int .i64 w.n, w.V] .ex)
    simp (disch := omega) only [L40_4, i, sh, sh2, shi, dec, hix, hld, hn1, hn2, and_true]
    have S10 : Sep S g (h.alloc (.cells [.int .i64 w.n, w.V] .ex)) (DkTs d c ((st.pd.take k).foldl putS st.pl) ws ++ []) := by rw [List.append_nil]; exact S1
    have hwd1 : 0 ≤ w.n ∧ w.n < st.cnt ∧ w.b.length = 512 := hwd
    refine (sector_ok (by omega) S10 hwd1.1 (by omega)).mono ?_
    rintro W h1 ⟨p, rfl⟩
    obtain ⟨H, ec, S2⟩ := lay_ok S1 hwm (by omega) hwd1.2.2 p
    simp (disch := omega) only [sh, sh2, ec, true_and]
    refine ⟨n, by omega, k + 1, by simp, by omega, ?_⟩
    rw [take_snoc hpk, List.foldl_append]
    exact S2
theorem ty115 : Try.prog.underlying 115 = some (.slice 117) := by kernel_rfl
theorem Crash_ok (B : (DBox d S st).ok g) (lt : ∀ a, S a → a < g.next) : Ok Try.prog 41 [.ptr d 0, .nils] g fun v h => v = i 0 ∧ ∃ S', Sep S g h [DBox d S' { st with pd := [] }] := by
  refine ok41 fun wf _ => ?_
  obtain ⟨Ts, ⟨c, ws, rfl, hpd, dw⟩, Sp⟩ := box_open B lt
  have hl := (Row.nils g byteE).len (P := Try.prog) ty115
  simp only [List.length_nil, Int.ofNat_zero, Int.natCast_zero] at hl
  simp (disch := omega) only [F41, J41_0, J41_1, J41_6, sh, sh2, nil_p ty23 true, i, b_len, hl]
  refine loop_n (fun n s h => s = i 0 ∧ h = g) (n := 0) ⟨rfl, rfl⟩ ?_
  rintro n s g ⟨rfl, rfl⟩
  simp (disch := omega) only [L41_7, J41_2, J41_4, i, sh, sh2, shi, dec, b_len, hl]
  refine loop_n (fun n s h => s = i 0 ∧ h = g) (n := 0) ⟨rfl, rfl⟩ ?_
  rintro n s g ⟨rfl, rfl⟩
  simp (disch := omega) only [L41_5, J41_3, i, sh, sh2, shi, dec, b_len, hl]
  refine (clear_ok Sp).mono ?_
  rintro _ h2 ⟨rfl, c', S2⟩
  have x2 := S2.cell 0 rfl
  have S3 := S2.store 0 rfl [c'.PV, c'.QV, .map c'.om, .bool false, i c'.lf, i c'.r, i c'.w, i c'.f]
  have x3 := S3.cell 0 rfl
  have S4 := S3.store (a := d) (vs := [c'.PV, c'.QV, .map c'.om, .bool false, i c'.lf, i c'.r, i c'.w, i c'.f]) 0 rfl [c'.PV, c'.QV, .map c'.om, .bool false, i 0, i c'.r, i c'.w, i c'.f]
  simp only [i] at x2 x3
  simp (disch := omega) only [sh, sh2, shs, x2, x3]
  refine ⟨trivial, ?_⟩
  have S5 : Sep S _ _ (DkTs d { c' with lf := 0 } st.pl []) := S4
  exact S5.boxed (Ts := []) (D := DkD d) (x := { st with pd := [] }) ⟨_, _, rfl, rfl, dw.c1, dw.c2, dw.pl, fun v hv => by cases hv⟩
theorem mk33 {n : Nat} (hn : n ≤ 2 ^ 40) (h : LHeap) : makeSliceL Try.prog 33 (i n) (i n) h = some (.slice h.next 0 n (.ex n), h.alloc (.cells ((List.replicate n (0 : Int)).flatMap byteE.f) .ex)) := by
  have e : makeSliceL Try.prog 33 (i n) (i n) h = if 0 ≤ (n : Int) ∧ (n : Int) ≤ n ∧ (1 : Int) * n ≤ 2 ^ 48 ∧ (n : Int) < 2 ^ 62 ∧ (B 0).cells.length = 1 ∧ (B 0).cellsOK = true then
            some (.slice h.next 0 (n : Int).toNat (.ex (n : Int).toNat), h.alloc (.cells (List.replicate (n : Int).toNat (B 0).cells).flatten .ex)) else none := nr (by kernel_rfl)
  rw [e, if_pos ⟨by omega, by omega, by omega, by omega, rfl, rfl⟩]
  simp only [Int.toNat_natCast]
  rw [← rep_flat]
  rfl
theorem bl88 (a n om : Nat) : buildL Try.prog 88 [(0, .slice a 0 n (.ex n)), (2, .map om)] = some (.agg [.slice a 0 n (.ex n), .nils, .map om, .bool false, .int .i64 0, .int .i64 0, .int .i64 0, .int .i64 0]) := nr (by kernel_rfl)
def newD (k : Nat) : DSt := ⟨k, List.replicate (512 * k) 0, []⟩
theorem newD_wf {k : Nat} (h1 : 1 ≤ k) (h2 : k ≤ 4096) : DWf (newD k) := ⟨h1, h2, by simp [newD], fun v hv => by cases hv⟩
theorem rd_newD {k : Nat} {n : Int} (h0 : 0 ≤ n) (h1 : n < k) : (newD k).rd n = List.replicate 512 0 := by
  show ((List.replicate (512 * k) (0 : Int)).drop (n.toNat * 512)).take 512 = _
  rw [List.drop_replicate, List.take_replicate, Nat.min_eq_left (by omega)]
theorem New_ok {k : Nat} (h1 : 1 ≤ k) (h2 : k ≤ 4096) : Ok Try.prog 10 [i k] g fun v h => ∃ d S, v = .tuple [.ptr d 0, i 0] ∧ Sep noF g h [DBox d S (newD k)] := by
  refine ok10 fun wf _ => ?_
  have e : ((512 * k : Nat) : Int) = k * 512 := by omega
  have hmk := mk33 (n := 512 * k) (by omega) g
  rw [e] at hmk
  have S1 : Sep noF g (g.alloc (.cells ((List.replicate (512 * k) (0 : Int)).flatMap byteE.f) .ex)) [Thing.vec byteE (.slice g.next 0 (512 * k) (.ex (512 * k))) (List.replicate (512 * k) 0)] := by
    have := (Sep.start noF g).vec (E := byteE) (l := List.replicate (512 * k) (0 : Int)) (.slice g.next 0 (512 * k) (.ex (512 * k))) (h' := g.alloc (.cells ((List.replicate (512 * k) (0 : Int)).flatMap byteE.f) .ex)) ?_ ?_ ?_ (Fr.alloc _ _) ?_
    · exact this
    · refine Row.of (get_alloc_eq _ _) (by simp) ?_ ?_
      · rw [List.drop_zero, List.take_of_length_le (by rw [flat_len]; exact Nat.le_refl _)]
      · rw [flat_len]; omega
    · exact ⟨Nat.le_refl _, fun hh => by omega⟩
    · exact ⟨_, .ex, get_alloc_eq _ _, by decide⟩
    · intro x hx; cases hx; exact ⟨Nat.le_refl _, Nat.lt_succ_self _⟩
  have S2 := S1.newMap (κ := Int) intK.k
  have S3 := S2.new [.slice g.next 0 (512 * k) (.ex (512 * k)), .nils, .map (g.next + 1), .bool false, i 0, i 0, i 0, i 0]
  have S4 := S3.nils wrE
  have cs : ∀ v ∈ [LV.slice g.next 0 (512 * k) (.ex (512 * k)), .nils, .map (g.next + 1), .bool false, i 0, i 0, i 0, i 0], v.cell = true := by simp [LV.cell]
  simp (disch := omega) only [F10, i, sh, sh2, shi, dec, hmk, bl88, LHeap.next_alloc]
  simp (disch := omega) only [sh, sh2, shc, i, LHeap.next_alloc]
  simp only [LHeap.next_alloc] at S4
  have S5 := S4.perm (Us := DkTs (g.next + 2) ⟨.slice g.next 0 (512 * k) (.ex (512 * k)), .nils, g.next + 1, 0, 0, 0, 0, 0⟩ (newD k).pl []) (by
    refine .trans (l₂ := [Thing.cells (g.next + 2) [.slice g.next 0 (512 * k) (.ex (512 * k)), .nils, .map (g.next + 1), .bool false, i 0, i 0, i 0, i 0], Thing.vec byteE (.slice g.next 0 (512 * k) (.ex (512 * k))) (List.replicate (512 * k) 0), Thing.map (g.next + 1) intK.k (fun _ => none) 0, Thing.vec wrE .nils []]) ?_ (.cons _ (.cons _ (.swap _ _ _)))
    refine .trans (.cons _ (.swap _ _ _)) (.swap _ _ _))
  obtain ⟨S', S6⟩ := S5.boxed (Ts := []) (D := DkD (g.next + 2)) (x := newD k) ⟨_, _, rfl, rfl, newD_wf h1 h2⟩
  exact ⟨_, S', rfl, S6⟩
end
end Go.Proofs.Ytoajcekgoalhjaa
