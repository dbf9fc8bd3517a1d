/-
  space: its frames (all, Frames).
-/
import Derived.Test.YtfbagndfifibiaaSxD
import Derived.Test.YtfbagndfifibiaaSxC
set_option linter.all false
namespace Go.Proofs.Ytfbagndfifibiaa
open Go.ChangeShapes Go.WideShapes Go.ChangeAt Go.RowKit Go.Lm
set_option linter.unusedSimpArgs false
set_option linter.unusedVariables false
set_option maxRecDepth 10000
section
variable {F : Nat → Prop} {g h h' : LHeap} {x m a t w s tb : Nat} {q : SpS} {last root : Int} {Ts : List Thing} {bs : List Int}
theorem walkP_is (bs : List Int) (root p : Int) : is32 (walkP bs root p) := by
  unfold walkP
  split
  · exact wordAt_range _ _
  · unfold is32; omega
def entsP (bs : List Int) (root : Int) (n : Nat) : List Int := (List.range n).filterMap fun k => if walkP bs root (k : Nat) = 0 then none else some (frameI (walkP bs root (k : Nat)))
theorem entsP_succ (bs : List Int) (root : Int) (n : Nat) : entsP bs root (n + 1) = entsP bs root n ++ (if walkP bs root (n : Nat) = 0 then [] else [frameI (walkP bs root (n : Nat))]) := by
  unfold entsP
  rw [List.range_succ, List.filterMap_append]
  congr 1
  by_cases h : walkP bs root (n : Nat) = 0
  · simp [h]
  · simp [h]
theorem entsP_len (bs : List Int) (root : Int) (n : Nat) : (entsP bs root n).length ≤ n := by
  unfold entsP
  exact Nat.le_trans (List.length_filterMap_le _ _) (by simp)
def allP (bs : List Int) (root : Int) : List Int := entsP bs root 256 ++ leavesP bs root 4 ++ [root]
theorem pt_tb : Try.prog.underlying 61 = some (.pointer 99) := ty61
theorem all36_ok (xs : g.get s = some (.cells (spC w tb q) .ex)) (xt : g.get tb = some (.cells [.ptr m 0, i q.root] .ex)) (M : MemAt g m a bs) (hr : frameIn bs q.root) (lm : m < g.next) (la : a < g.next) (lt : tb < g.next) (ls : s < g.next) :
    Ok Try.prog 36 [.ptr s 0] g fun V h => Row h V intE (allP bs q.root) ∧ Fr noF g h := by
  refine ok36 fun _ _ => ?_
  simp only [F36, J36_0]
  refine (made20 xs).mono ?_
  rintro _ h0 ⟨rfl, rfl⟩
  have nt := (nil_p (P := Try.prog) pt_tb true).1
  have c := spc w tb q
  have nn : newL .nils h0 = some (.ptr h0.next 0, h0.alloc (.cells [.nils] .ex)) := rfl
  simp (disch := omega) only [i, sh, sh2, shc, shi, dec, xs, c, nt, J36_1, J36_2, nn]
  have S1 := (Sep.start noF h0).new [.nils]
  have S2 := S1.nils intE
  have f1 := S2.fr
  generalize e1 : h0.alloc (.cells [.nils] .ex) = h1 at *
  generalize ho : h0.next = o at S1 S2 ⊢
  have xs1 := (f1.eq s (by omega) id).trans xs
  simp (disch := omega) only [i, sh, sh2, shc, shi, dec, xs1, c]
  refine (All56_ok tb).mono ?_
  rintro _ _ ⟨rfl, rfl⟩
  simp only [J36_4]
  refine range_i fun r hs hp rule => ?_
  have S3 := S2.new [.ptr tb 0]
  have S4 := S3.newLoop hs hp
  generalize e2 : h1.alloc (.cells [.ptr tb 0] .ex) = h2 at *
  generalize e3 : h2.alloc (.loop r) = h3 at *
  generalize hlo : h2.next = lo at *
  generalize hc : h1.next = cc at *
  have S4 : Sep noF h0 h3 [Thing.cells o [.nils], Thing.vec intE .nils [], Thing.cells cc [.ptr tb 0], Thing.loop lo r .ready none] := S4
  refine (walk71 (c := cc) (lo := lo) (t := tb) (m := m) (a := a) (bs := bs) (root := q.root) (g := h3)
    (I := fun k h => ∃ V, Sep noF h0 h [Thing.cells o [V], Thing.vec intE V (entsP bs q.root k), Thing.cells cc [.ptr tb 0], Thing.loop lo r .ready none]) ?_ hr ⟨.nils, S4⟩ ?_ ?_).mono ?_
  · rintro k h ⟨V, Sk⟩
    exact ⟨Sk.cell 2 rfl, (Sk.fr.eq tb lt id).trans xt, M.fr Sk.fr lm la id id⟩
  · rintro k h hk ⟨V, Sk⟩ hw
    refine ⟨V, ?_⟩
    rw [entsP_succ, if_pos hw, List.append_nil]
    exact Sk
  · rintro k h K hk ⟨V, Sk⟩ hw hK
    refine rule _ _ _ none _ (Sk.loopAt 3 rfl) ⟨_, _, rfl, ?_⟩
    simp only [R36_5]
    refine Sk.begin 3 rfl fun h5 S5 f5 n5 => ?_
    have S5 : Sep noF h0 h5 [Thing.cells o [V], Thing.vec intE V (entsP bs q.root k), Thing.cells cc [.ptr tb 0], Thing.loop lo r .busy none] := S5
    have xo := S5.cell 0 rfl
    have cV := (S5.row 1 rfl).cell
    have c0 := ph_c V
    simp (disch := omega) only [B36_5, i, sh, sh2, shc, shi, dec, xo, c0]
    refine (frame31 (walkP_is bs q.root k)).mono ?_
    rintro _ h6 ⟨rfl, rfl⟩
    have hle := entsP_len bs q.root k
    obtain ⟨V', h7, ea, S7, cV', _⟩ := S5.push (E := intE) (V := V) (l := entsP bs q.root k) 1 rfl (bytes := 8) (frameI (walkP bs q.root k)) (cs := [i (frameI (walkP bs q.root k))]) rfl (by omega)
    have S7 : Sep noF h0 h7 [Thing.cells o [V], Thing.vec intE V' (entsP bs q.root k ++ [frameI (walkP bs q.root k)]), Thing.cells cc [.ptr tb 0], Thing.loop lo r .busy none] := S7
    have hap : builtinL Try.prog .append [22, 22] [V, .slice h6.next 0 1 (.ex 1)] (h6.alloc (.cells [i (frameI (walkP bs q.root k))] .ex)) = some (V', h7) := (ap50 rfl _).trans ea
    have hb := bs50_1 (frameI (walkP bs q.root k)) h6
    simp only [i] at hap hb
    have xo7 := S7.cell 0 rfl
    have xa : (h6.alloc (.cells [.int .i64 (frameI (walkP bs q.root k))] .ex)).get o = some (.cells [V] .ex) := by
      rw [get_alloc_ne _ _ (by have := S5.lt 0 rfl (a := o) rfl; omega)]; exact xo
    have S8 := S7.store 0 rfl [V']
    have S8 : Sep noF h0 (h7.set o (.cells [V'] .ex)) [Thing.cells o [V'], Thing.vec intE V' (entsP bs q.root k ++ [frameI (walkP bs q.root k)]), Thing.cells cc [.ptr tb 0], Thing.loop lo r .busy none] := S8
    have hst := st_cell (k := 0) xo7 (by simp) (v := V') cV'
    have hst : storeV 1 (.ptr o 0) V' h7 = some (h7.set o (.cells [V'] .ex)) := hst
    simp (disch := omega) only [i, sh, sh2, shc, shi, dec, xo, xa, c0, hb, hap, hst, she]
    refine S8.end_ 3 rfl none fun h9 S9 f9 n9 => hK h9 ⟨V', ?_⟩
    rw [entsP_succ, if_neg hw]
    exact S9
  · rintro _ h ⟨V, Sk⟩
    refine Sk.leave 3 rfl (by decide) fun h9 S9 f9 n9 => ?_
    have S9 : Sep noF h0 h9 [Thing.cells o [V], Thing.vec intE V (entsP bs q.root 256), Thing.cells cc [.ptr tb 0]] := S9
    have xo := S9.cell 0 rfl
    have c0 := ph_c V
    have xs9 := (S9.fr.eq s ls id).trans xs
    have xt9 := (S9.fr.eq tb lt id).trans xt
    have M9 := M.fr S9.fr lm la id id
    have le9 := S9.fr.le
    simp (disch := omega) only [jumpM, J36_3, i, sh, sh2, shc, shi, dec, xo, c0, xs9, c]
    refine (Leaves_ok xt9 M9 hr (by omega) (by omega) (by omega)).mono ?_
    rintro U h10 ⟨R10, f10⟩
    have S10 := S9.pure f10
    have xo10 := S10.cell 0 rfl
    have xs10 := (S10.fr.eq s ls id).trans xs
    have l1 := entsP_len bs q.root 256
    have l2 := leavesP_len bs q.root 4
    obtain ⟨V', h11, ea, S11, cV', _⟩ := S10.app (E := intE) (V := V) (l := entsP bs q.root 256) 1 rfl (bytes := 8) R10 (by omega)
    have S11 : Sep noF h0 h11 [Thing.cells o [V], Thing.vec intE V' (entsP bs q.root 256 ++ leavesP bs q.root 4), Thing.cells cc [.ptr tb 0]] := S11
    have hap : builtinL Try.prog .append [22, 22] [V, U] h10 = some (V', h11) := (ap50 R10.not_str _).trans ea
    have xs11 := (S11.fr.eq s ls id).trans xs
    have xt11 := (S11.fr.eq tb lt id).trans xt
    simp (disch := omega) only [i, sh, sh2, shc, shi, dec, xo10, c0, xs10, c, hap, xs11]
    refine (Root_ok xt11).mono ?_
    rintro _ h12 ⟨rfl, rfl⟩
    obtain ⟨V2, h13, ea2, S13, cV2, _⟩ := S11.push (E := intE) (V := V') (l := entsP bs q.root 256 ++ leavesP bs q.root 4) 1 rfl (bytes := 8) q.root (cs := [i q.root]) rfl (by rw [List.length_append]; omega)
    have hap2 : builtinL Try.prog .append [22, 22] [V', .slice h12.next 0 1 (.ex 1)] (h12.alloc (.cells [i q.root] .ex)) = some (V2, h13) := (ap50 rfl _).trans ea2
    have hb := bs50_1 q.root h12
    simp only [i] at hap2 hb
    simp (disch := omega) only [i, sh, sh2, shc, shi, dec, hb, hap2]
    exact ⟨S13.row 1 rfl, S13.fr⟩
theorem Frames17_ok (xs : g.get s = some (.cells (spC w tb q) .ex)) (xt : g.get tb = some (.cells [.ptr m 0, i q.root] .ex)) (M : MemAt g m a bs) (hr : frameIn bs q.root) (lm : m < g.next) (la : a < g.next) (lt : tb < g.next) (ls : s < g.next) :
    Ok Try.prog 17 [.ptr s 0] g fun v h => v = i (allP bs q.root).length ∧ Fr noF g h := by
  refine ok17 fun _ _ => ?_
  simp only [F17]
  refine (all36_ok xs xt M hr lm la lt ls).mono ?_
  rintro V h ⟨R, f⟩
  have hl := R.len (P := Try.prog) ty50
  simp (disch := omega) only [i, sh, sh2, shi, dec, b_len, hl]
  exact ⟨trivial, f⟩
end
end Go.Proofs.Ytfbagndfifibiaa

namespace Go.Proofs.Ytfbagndfifibiaa
open Go.ChangeShapes Go.WideShapes Go.ChangeAt Go.RowKit Go.Lm
set_option linter.unusedSimpArgs false
set_option linter.unusedVariables false
set_option maxRecDepth 10000
section
variable {F : Nat → Prop} {g h h' : LHeap} {x m a t w s tb : Nat} {q : SpS} {last root : Int} {Ts Zs : List Thing} {bs : List Int} {fs : FSt} {ts : TSt} {S S2 : Nat → Prop}
theorem ptNew_box (B : (FBox x m S fs).ok g) (lt : ∀ b, S b → b < g.next) {y : Int} (hy : fs.cnt y ≠ 0) :
    Ok Try.prog 19 [.ptr m 0, i y] g fun v h => ∃ h1, After (FD x m) S g h1 (fs.wb (zeroF fs.bs y)) ∧ v = .tuple [.ptr h1.next 0, i 0] ∧ h = h1.alloc (.cells [.ptr m 0, i y] .ex) := by
  obtain ⟨a, CV, CC, rs, Sp, hl, w⟩ := fr_open B lt
  refine (ptNew_ok (fr_m Sp w.b1 w.b2 w.b3) (w.frameIn (cnt_pos hy))).mono ?_
  rintro v h ⟨h1, T, rfl, rfl⟩
  have S' := fr_mem Sp T (zeroF_len _ _)
  exact ⟨h1, fr_shut (st := fs.wb (zeroF fs.bs y)) S' hl (wf_only w (only_zero _ _) fun z hz => by subst hz; exact hy), rfl, rfl⟩
def newQ (id root : Int) : SpS := ⟨id, root, List.replicate 256 false, 0⟩
theorem bl66 (w tb : Nat) (id root : Int) : buildL Try.prog 66 [(0, .ptr w 0), (1, .int .i64 id), (2, .ptr tb 0)] = some (.agg (spC w tb (newQ id root))) := nr (by kernel_rfl)
theorem spC_cell (w tb : Nat) (q : SpS) : ∀ v ∈ spC w tb q, v.cell = true := by
  intro v hv
  unfold spC at hv
  simp only [List.mem_cons, List.mem_append, List.mem_map, List.not_mem_nil, or_false] at hv
  rcases hv with rfl | rfl | rfl | ⟨b, _, rfl⟩ | rfl <;> rfl
theorem wc_set (m x t : Nat) (last n : Int) : (wC m x t last).set 3 (i n) = wC m x t n := rfl
def newFs (fs : FSt) (k : Nat) : FSt := (allocS fs k).1.wb (zeroF (allocS fs k).1.bs (allocS fs k).2.1)
theorem New_sp (Sp : Sep F g h (FBox x m S fs :: TBox t S2 ts :: Thing.cells w (wC m x t last) :: Zs)) {k : Nat} (hk : k < fs.harts) (hu : usedL fs.counts < fs.counts.length) (hw : FWf fs) (hl : 0 ≤ last ∧ last < 4611686018427387904) :
    Ok Try.prog 6 [.ptr w 0, i (k : Int)] h fun v h' => ∃ S' tb s, v = .tuple [.ptr s 0, i 0] ∧ Sep F g h' (FBox x m S' (newFs fs k) :: TBox t S2 ts :: Thing.cells w (wC m x t (last + 1)) :: (Zs ++ [Thing.cells tb [.ptr m 0, i (allocS fs k).2.1], Thing.cells s (spC w tb (newQ (last + 1) (allocS fs k).2.1))])) := by
  refine ok6 fun _ _ => ?_
  have nw := (nil_p (P := Try.prog) pw_t true).1
  have xw := Sp.cell 2 rfl
  have c := wc m x t last
  simp (disch := omega) only [F6, i, sh, sh2, shc, shi, dec, nw, xw, c]
  refine (Alloc_ok (Sp.at 0 rfl) (Sp.boxlt 0 rfl) (k : Int)).mono ?_
  rintro _ h1 ⟨rfl, A1⟩
  obtain ⟨S1', Sp1⟩ := Sp.call 0 rfl A1
  have Sp1 : Sep F g h1 (FBox x m S1' (allocS fs k).1 :: TBox t S2 ts :: Thing.cells w (wC m x t last) :: Zs) := Sp1
  obtain ⟨_, e0, hin, h0, hz, _, _, hbs, _, _, hc⟩ := (alloc_said hw hk).resolve_right fun h => by omega
  rw [e0]
  have hcy : (allocS fs k).1.cnt (allocS fs k).2.1 ≠ 0 := by rw [hc, if_pos rfl]; decide
  unfold newFs
  generalize (allocS fs k).2.1 = y at *
  generalize (allocS fs k).1 = fs1 at *
  have xw1 := Sp1.cell 2 rfl
  simp (disch := omega) only [i, sh, sh2, shc, shi, dec, xw1, c]
  refine (ptNew_box (Sp1.at 0 rfl) (Sp1.boxlt 0 rfl) hcy).mono ?_
  rintro _ _ ⟨h2, A2, rfl, rfl⟩
  obtain ⟨S2', Sp2⟩ := Sp1.call 0 rfl A2
  have Sp2 : Sep F g h2 (FBox x m S2' (fs1.wb (zeroF fs1.bs y)) :: TBox t S2 ts :: Thing.cells w (wC m x t last) :: Zs) := Sp2
  have Sp3 := Sp2.new [.ptr m 0, i y]
  generalize e3 : h2.alloc (.cells [.ptr m 0, i y] .ex) = h3 at *
  have Sp3 : Sep F g h3 (FBox x m S2' (fs1.wb (zeroF fs1.bs y)) :: TBox t S2 ts :: Thing.cells w (wC m x t last) :: (Zs ++ [Thing.cells h2.next [.ptr m 0, i y]])) := Sp3
  have xw3 := Sp3.cell 2 rfl
  have Sp4 := Sp3.store 2 rfl (wC m x t (last + 1))
  have Sp4 : Sep F g (h3.set w (.cells (wC m x t (last + 1)) .ex)) (FBox x m S2' (fs1.wb (zeroF fs1.bs y)) :: TBox t S2 ts :: Thing.cells w (wC m x t (last + 1)) :: (Zs ++ [Thing.cells h2.next [.ptr m 0, i y]])) := Sp4
  have hst := st_cell (k := 3) xw3 (by simp [wC]) (v := i (last + 1)) rfl
  rw [wc_set] at hst
  have xw4 := Sp4.cell 2 rfl
  have c4 := wc m x t (last + 1)
  generalize e4 : h3.set w (.cells (wC m x t (last + 1)) .ex) = h4 at *
  have hb := bl66 w h2.next (last + 1) y
  have hn : newL (.agg (spC w h2.next (newQ (last + 1) y))) h4 = some (.ptr h4.next 0, h4.alloc (.cells (spC w h2.next (newQ (last + 1) y)) .ex)) := new_agg _ _ (spC_cell _ _ _)
  simp only [i] at hst
  simp (disch := omega) only [i, sh, sh2, shc, shi, dec, xw3, c, hst, xw4, c4, hb, hn]
  refine ⟨S2', h2.next, h4.next, rfl, ?_⟩
  have Sp5 := Sp4.new (spC w h2.next (newQ (last + 1) y))
  have e : (FBox x m S2' (fs1.wb (zeroF fs1.bs y)) :: TBox t S2 ts :: Thing.cells w (wC m x t (last + 1)) :: (Zs ++ [Thing.cells h2.next [.ptr m 0, i y]])) ++ [Thing.cells h4.next (spC w h2.next (newQ (last + 1) y))] = FBox x m S2' (fs1.wb (zeroF fs1.bs y)) :: TBox t S2 ts :: Thing.cells w (wC m x t (last + 1)) :: (Zs ++ [Thing.cells h2.next [.ptr m 0, i y], Thing.cells h4.next (spC w h2.next (newQ (last + 1) y))]) := by simp
  rw [← e]
  exact Sp5
theorem ptl_t : Try.prog.underlying 31 = some (.pointer 76) := by kernel_rfl
theorem pf_t : Try.prog.underlying 30 = some (.pointer 72) := by kernel_rfl
theorem bl59 (m x t : Nat) : buildL Try.prog 59 [(0, .ptr m 0), (1, .ptr x 0), (2, .ptr t 0)] = some (.agg (wC m x t 0)) := nr (by kernel_rfl)
theorem NewWorld_ok (m x t : Nat) : Ok Try.prog 13 [.ptr m 0, .ptr x 0, .ptr t 0] h fun v h' => v = .tuple [.ptr h.next 0, i 0] ∧ h' = h.alloc (.cells (wC m x t 0) .ex) := by
  refine ok13 fun _ _ => ?_
  have n1 := (nil_p (P := Try.prog) ph_tp true).1
  have n2 := (nil_p (P := Try.prog) pf_t true).1
  have n3 := (nil_p (P := Try.prog) ptl_t true).1
  have hb := bl59 m x t
  have hn : newL (.agg (wC m x t 0)) h = some (.ptr h.next 0, h.alloc (.cells (wC m x t 0) .ex)) := new_agg _ _ (by simp [wC, LV.cell])
  simp (disch := omega) only [F13, i, sh, sh2, shi, dec, n1, n2, n3, hb, hn]
  exact ⟨trivial, trivial⟩
theorem frNew_at {n harts : Nat} {first : Int} {a : Nat} {Ys : List Thing} (Sp : Sep F g h (memTs m a bs ++ Ys)) (b1 : bs.length ≤ 1048576) (b2 : 256 ≤ bs.length) (b3 : bs.length % 256 = 0) (hn : newOk ((bs.length / 256 : Nat) : Int) first n harts) :
    Ok Try.prog 11 [.ptr m 0, i first, i n, i harts] h fun v h' => ∃ x S', v = .tuple [.ptr x 0, i 0] ∧ Sep F g h' (FBox x m S' (newS first n harts bs) :: Ys) := by
  refine (frNew_ok Sp.self b1 b2 b3 hn).mono ?_
  rintro v h' ⟨x, S', rfl, S2⟩
  exact ⟨x, S', rfl, Sp.frame S2⟩
def mcC (m x t w : Nat) : List LV := [.ptr m 0, .ptr x 0, .ptr t 0, .ptr w 0, .nils, .nils]
theorem bl36 (m x t w : Nat) : buildL Try.prog 36 [(0, .ptr m 0), (1, .ptr x 0), (2, .ptr t 0), (3, .ptr w 0)] = some (.agg (mcC m x t w)) := nr (by kernel_rfl)
def fs0 (n : Nat) : FSt := newS 0 n 3 (zerosB (256 * n))
def buildTs (x m t w mc : Nat) (S S2 : Nat → Prop) (fs : FSt) (ts : TSt) (last : Int) : List Thing := [FBox x m S fs, TBox t S2 ts, Thing.cells w (wC m x t last), Thing.cells mc (mcC m x t w)]
theorem build_ok {n : Nat} (n1 : 1 ≤ n) (n2 : n ≤ 4096) : Ok Try.prog 4 [i n] g fun v h => ∃ x m t w mc S S2, v = .ptr mc 0 ∧ Sep noF g h (buildTs x m t w mc S S2 (fs0 n) (newT 3 4) 0) := by
  refine ok4 fun _ _ => ?_
  simp (disch := omega) only [F4]
  have hzl : (zerosB (256 * ((n : Nat) : Int).toNat)).length = 256 * n := by unfold zerosB; rw [List.length_replicate]; omega
  refine (memNew_ok (x := (n : Int)) (by omega) (by omega)).mono ?_
  rintro _ h1 ⟨m, a, rfl, S1⟩
  have ez : zerosB (256 * ((n : Nat) : Int).toNat) = zerosB (256 * n) := by rw [Int.toNat_natCast]
  rw [ez] at S1 hzl
  rw [← List.append_nil (memTs m a _)] at S1
  simp (disch := omega) only [i, sh, sh2, shi, dec]
  refine (frNew_at (n := n) (harts := 3) (first := 0) S1 (by omega) (by omega) (by omega) (by unfold newOk; omega)).mono ?_
  rintro _ h2 ⟨x, S', rfl, S2⟩
  have S2 : Sep noF g h2 [FBox x m S' (fs0 n)] := S2
  simp (disch := omega) only [i, sh, sh2, shi, dec]
  refine (New_ok 3 4).mono ?_
  rintro _ h3 (⟨hno, _⟩ | ⟨_, t, S3', rfl, B3, f3, o3⟩)
  · exact absurd ⟨⟨by omega, by omega⟩, by omega, by omega⟩ hno
  have S3 := S2.add (TBox t S3' (newT 3 4)) f3 B3 o3
  have S3 : Sep noF g h3 [FBox x m S' (fs0 n), TBox t S3' (newT 3 4)] := S3
  simp (disch := omega) only [i, sh, sh2, shi, dec]
  refine (NewWorld_ok m x t).mono ?_
  rintro _ _ ⟨rfl, rfl⟩
  have S4 := S3.new (wC m x t 0)
  have S4 : Sep noF g (h3.alloc (.cells (wC m x t 0) .ex)) [FBox x m S' (fs0 n), TBox t S3' (newT 3 4), Thing.cells h3.next (wC m x t 0)] := S4
  generalize h3.alloc (.cells (wC m x t 0) .ex) = h4 at *
  have q1 := (nil_p (P := Try.prog) ph_tp true).1
  have q2 := (nil_p (P := Try.prog) pf_t true).1
  have q3 := (nil_p (P := Try.prog) ptl_t true).1
  have q4 := (nil_p (P := Try.prog) pw_t true).1
  have hb := bl36 m x t h3.next
  have hn : newL (.agg (mcC m x t h3.next)) h4 = some (.ptr h4.next 0, h4.alloc (.cells (mcC m x t h3.next) .ex)) := new_agg _ _ (by simp [mcC, LV.cell])
  simp (disch := omega) only [i, sh, sh2, shi, dec, q1, q2, q3, q4, hb, hn]
  exact ⟨x, m, t, h3.next, h4.next, S', S3', rfl, S4.new _⟩
end
end Go.Proofs.Ytfbagndfifibiaa

namespace Go.Proofs.Ytfbagndfifibiaa
open Go.ChangeShapes Go.WideShapes Go.ChangeAt Go.RowKit Go.Lm
set_option linter.unusedSimpArgs false
set_option linter.unusedVariables false
set_option maxRecDepth 10000
/-- A world and one of its spaces, beside others. -/
def SpL (x m t w s tb : Nat) (S S2 : Nat → Prop) (fs : FSt) (ts : TSt) (last : Int) (q : SpS) (Zs : List Thing) : List Thing :=
  FBox x m S fs :: Thing.cells tb [.ptr m 0, i q.root] :: TBox t S2 ts :: Thing.cells w (wC m x t last) :: Thing.cells s (spC w tb q) :: Zs
section
variable {F : Nat → Prop} {g h h' : LHeap} {x m a t w s tb : Nat} {q : SpS} {last root : Int} {Ts Zs : List Thing} {bs : List Int} {fs : FSt} {ts : TSt} {S S2 : Nat → Prop}
theorem mem_of (Sp : Sep F g h (FBox x m S fs :: Zs)) : FWf fs ∧ ∃ a, MemAt h m a fs.bs ∧ m < h.next ∧ a < h.next := by
  obtain ⟨Ts, ⟨a, CV, CC, rs, rfl, hl1, w⟩, S1⟩ := unbox Sp
  exact ⟨w, a, fr_m S1 w.b1 w.b2 w.b3, S1.lt 3 rfl rfl, S1.lt 4 rfl rfl⟩
theorem ag86 : aggN Try.prog 86 = some (some 2) := by kernel_rfl
theorem ag55 : aggN Try.prog 55 = some (some 2) := by kernel_rfl
theorem ret27 (a : Nat) (h : LHeap) (K : LV → LHeap → Prop) : retC Try.prog [.cell 4 86] [(4, .ptr a 0)] h K = vK (loadV (some 2) (.ptr a 0) h) fun x => K x h := by
  have e : resL Try.prog (fun i => (List.lookup i [(4, LV.ptr a 0)]).getD undefL) h [.cell 4 86] = (loadV (some 2) (.ptr a 0) h).map fun x => [x] := by
    simp only [resL, loadT, ag86, List.lookup]
    simp
    cases loadV (some 2) (.ptr a 0) h <;> rfl
  unfold retC
  rw [e]
  cases loadV (some 2) (.ptr a 0) h <;> rfl
theorem ret35 (a : Nat) (v : LV) (h : LHeap) (K : LV → LHeap → Prop) : retC Try.prog [.tmp 4, .cell 5 55] [(4, v), (5, .ptr a 0)] h K = vK (loadV (some 2) (.ptr a 0) h) fun x => K (.tuple [v, x]) h := by
  have e : resL Try.prog (fun i => (List.lookup i [(4, v), (5, .ptr a 0)]).getD undefL) h [.tmp 4, .cell 5 55] = (loadV (some 2) (.ptr a 0) h).map fun x => [v, x] := by
    simp only [resL, loadT, ag55, List.lookup]
    simp
    cases loadV (some 2) (.ptr a 0) h <;> rfl
  unfold retC
  rw [e]
  cases loadV (some 2) (.ptr a 0) h <;> rfl
theorem ret16 (a : Nat) (v : LV) (h : LHeap) (K : LV → LHeap → Prop) : retC Try.prog [.tmp 10, .cell 11 55] [(10, v), (11, .ptr a 0)] h K = vK (loadV (some 2) (.ptr a 0) h) fun x => K (.tuple [v, x]) h := by
  have e : resL Try.prog (fun i => (List.lookup i [(10, v), (11, .ptr a 0)]).getD undefL) h [.tmp 10, .cell 11 55] = (loadV (some 2) (.ptr a 0) h).map fun x => [v, x] := by
    simp only [resL, loadT, ag55, List.lookup]
    simp
    cases loadV (some 2) (.ptr a 0) h <;> rfl
  unfold retC
  rw [e]
  cases loadV (some 2) (.ptr a 0) h <;> rfl
theorem ld2 (h : LHeap) {a : Nat} {c d : LV} (e : h.get a = some (.cells [c, d] .ex)) : loadV (some 2) (.ptr a 0) h = some (.agg [c, d]) := by
  show cellO (some 2) 0 (h.get a) = _
  rw [e]; rfl
theorem st2 {h : LHeap} {a : Nat} {c d c' d' : LV} (e : h.get a = some (.cells [c, d] .ex)) (hc : c'.cell = true) (hd : d'.cell = true) : storeV 2 (.ptr a 0) (.agg [c', d']) h = some (h.set a (.cells [c', d'] .ex)) := by
  rw [store_agg, e]
  simp [stA, stB, lenIs, overAt, hc, hd]
theorem key27 (xs : h.get s = some (.cells (spC w tb q) .ex)) (ls : s < h.next) (p : Int) : Ok Try.prog 27 [.ptr s 0, i p] h fun v h' => v = .agg (keyE.f (q.id, p)) ∧ Fr noF h h' := by
  refine ok27 fun _ _ => ?_
  have c := spc w tb q
  have hn : newL (.agg [.int .i64 0, .int .i64 0]) h = some (.ptr h.next 0, h.alloc (.cells [.int .i64 0, .int .i64 0] .ex)) := new_agg _ _ (by simp [LV.cell])
  have xs1 : (h.alloc (.cells [.int .i64 0, .int .i64 0] .ex)).get s = some (.cells (spC w tb q) .ex) := by rw [get_alloc_ne _ _ (by omega)]; exact xs
  have hb : buildL Try.prog 86 [(0, .int .i64 q.id), (1, .int .i64 p)] = some (.agg [i q.id, i p]) := nr (by kernel_rfl)
  simp (disch := omega) only [F27, i, sh, sh2, shc, shi, dec, hn, xs1, c, hb]
  have hst := st2 (h := h.alloc (.cells [.int .i64 0, .int .i64 0] .ex)) (a := h.next) (get_alloc_eq _ _) (c' := .int .i64 q.id) (d' := .int .i64 p) rfl rfl
  rw [ret27, ld2 _ (get_alloc_eq _ _)]
  exact ⟨rfl, Fr.alloc _ _⟩
end
end Go.Proofs.Ytfbagndfifibiaa

namespace Go.Proofs.Ytfbagndfifibiaa
open Go.ChangeShapes Go.WideShapes Go.ChangeAt Go.RowKit Go.Lm
set_option linter.unusedSimpArgs false
set_option linter.unusedVariables false
set_option maxRecDepth 10000
def andI (n k : Int) : Int := IntKind.i64.wrap ((BitVec.ofInt 64 n &&& BitVec.ofInt 64 k).toNat : Int)
/-- What a touch comes to; none: a fault. -/
def addrP (e addr : Int) (wr : Bool) : Option Int := if wr = true ∧ andI (flagsI e) 2 = 0 then none else some (frameI e * 256 + addr % 256)
def resV : Option Int → LV
  | some p => .tuple [i p, i 0]
  | none => .tuple [i 0, i 51]
section
variable {F : Nat → Prop} {g h h' : LHeap} {x m a t w s tb : Nat} {q : SpS} {last root : Int} {Ts Zs : List Thing} {bs : List Int} {fs : FSt} {ts : TSt} {S S2 : Nat → Prop}
theorem low255 {addr : Int} (ha : 0 ≤ addr ∧ addr < 65536) : binL Try.prog .and 53 true (.int .u32 addr) (.int .u32 255) = some (.int .u32 (addr % 256)) := by
  have e1 : binL Try.prog .and 53 true (.int .u32 addr) (.int .u32 255) = some (.int .u32 (flagsI addr)) := nr (by kernel_rfl)
  rw [e1, flagsI_eq (by unfold is32; omega)]
theorem cv64 (y : Int) (g : LHeap) : convL Try.prog 53 3 (.int .u32 y) g = some (.int .i64 (IntKind.i64.wrap y), g) := nr (by kernel_rfl)
theorem wrap64 {y : Int} (h : 0 ≤ y ∧ y < 4294967296) : IntKind.i64.wrap y = y := by
  unfold IntKind.wrap
  simp [IntKind.signed, IntKind.bits]
  omega
theorem shr8 (w : Int) (h : 0 ≤ w) : binL Try.prog .shr 53 true (.int .u32 w) (.int .u64 8) = some (.int .u32 (w / 256)) := by
  have e1 : binL Try.prog .shr 53 true (.int .u32 w) (.int .u64 8) = some (.int .u32 (w.fdiv (2 ^ 8))) := nr (by kernel_rfl)
  rw [e1, Int.fdiv_eq_ediv_of_nonneg _ (by decide)]
  rfl
theorem touch_end {addr e : Int} {wr : Bool} (ha : 0 ≤ addr ∧ addr < 65536) (he : is32 e) {K : LV → LHeap → Prop} (hK : K (resV (addrP e addr wr)) h) : J15_5 (.int .u32 addr) (.bool wr) (.int .u32 e) h K := by
  have lo := low255 ha
  have cv := cv64 (addr % 256)
  have w64 := wrap64 (y := addr % 256) ⟨by omega, by omega⟩
  have he' := he
  unfold is32 at he'
  have tail : resV (addrP e addr wr) = resV (some (frameI e * 256 + addr % 256)) → (Ok Try.prog 31 [.int .u32 e] h fun t86 g =>
      vK (binL Try.prog .mul 3 true t86 (.int .i64 256)) fun t87 =>
      vK (binL Try.prog .and 53 true (.int .u32 addr) (.int .u32 255)) fun t89 =>
      oK (convL Try.prog 53 3 t89 g) fun t90 g =>
      vK (binL Try.prog .add 3 false t87 t90) fun t91 =>
      K (.tuple [t91, .int .i64 0]) g) := fun hr => by
    refine (frame31 he).mono ?_
    rintro _ h1 ⟨rfl, rfl⟩
    have hf : 0 ≤ frameI e ∧ frameI e < 16777216 := by unfold frameI; omega
    simp (disch := omega) only [i, sh, sh2, shi, dec, lo, cv, w64]
    rw [hr] at hK
    exact hK
  cases wr with
  | false =>
    have hr : addrP e addr false = some (frameI e * 256 + addr % 256) := by unfold addrP; rw [if_neg (by simp)]
    have T := tail (by rw [hr])
    simp (disch := omega) only [J15_5, i, sh, sh2, shi, dec]
    exact T
  | true =>
    simp (disch := omega) only [J15_5, i, sh, sh2, shi, dec]
    refine flags30.mono ?_
    rintro _ h1 ⟨rfl, rfl⟩
    have e2 : ∀ y, binL Try.prog .and 3 true (.int .i64 y) (.int .i64 2) = some (.int .i64 (andI y 2)) := fun y => nr (by kernel_rfl)
    by_cases h0 : andI (flagsI e) 2 = 0
    · have hr : addrP e addr true = none := by unfold addrP; rw [if_pos ⟨rfl, h0⟩]
      have e3 : (andI (flagsI e) 2 == 0) = true := by simp [h0]
      rw [hr] at hK
      simp (disch := omega) only [i, sh, sh2, shi, e2, e3, binL_eql_int]
      exact hK
    · have hr : addrP e addr true = some (frameI e * 256 + addr % 256) := by unfold addrP; rw [if_neg (fun h => h0 h.2)]
      have T := tail (by rw [hr])
      have e3 : (andI (flagsI e) 2 == 0) = false := by simp [h0]
      simp (disch := omega) only [i, sh, sh2, shi, e2, e3, binL_eql_int]
      exact T
/-- What a hart comes to: what it keeps, or what the table says; none: nothing. -/
def touchE (fs : FSt) (ts : TSt) (q : SpS) (k : Nat) (p : Int) : Option Int := match lkp (ts.hart k) (q.id, p) with
  | some e => some e
  | none => if walkP fs.bs q.root p = 0 then none else some (walkP fs.bs q.root p)
/-- What harts keep behind it. -/
def touchT (fs : FSt) (ts : TSt) (q : SpS) (k : Nat) (p : Int) : TSt := match lkp (ts.hart k) (q.id, p) with
  | some e => ts
  | none => if walkP fs.bs q.root p = 0 then ts else { ts with harts := ts.harts.set k (fillK ts.size (ts.hart k) (q.id, p) (walkP fs.bs q.root p)) }
theorem Touch_ok (Sp : Sep F g h (SpL x m t w s tb S S2 fs ts last q Zs)) (hr : frameIn fs.bs q.root) {k : Nat} (hk : k < ts.harts.length) {addr : Int} (ha : 0 ≤ addr ∧ addr < 65536) (wr : Bool) (h32 : ∀ e, lkp (ts.hart k) (q.id, addr / 256) = some e → is32 e) :
    Ok Try.prog 15 [.ptr s 0, i (k : Int), .int .u32 addr, .bool wr] h fun v h' => v = resV ((touchE fs ts q k (addr / 256)).bind fun e => addrP e addr wr) ∧ ∃ S2', Sep F g h' (SpL x m t w s tb S S2' fs (touchT fs ts q k (addr / 256)) last q Zs) := by
  refine ok15 fun _ _ => ?_
  have xs : h.get s = some (.cells (spC w tb q) .ex) := Sp.cell 4 rfl
  have xw : h.get w = some (.cells (wC m x t last) .ex) := Sp.cell 3 rfl
  have c := spc w tb q
  have cw := wc m x t last
  simp only [F15, J15_0]
  refine (made20 xs).mono ?_
  rintro _ h ⟨rfl, rfl⟩
  have s8 := shr8 addr ha.1
  have cv := cv64 (addr / 256)
  have w64 := wrap64 (y := addr / 256) ⟨by omega, by omega⟩
  simp (disch := omega) only [i, sh, sh2, shc, shi, dec, J15_1, J15_2, s8, cv, w64, xs, xw, c, cw]
  refine (Harts_ok (Sp.at 2 rfl) (Sp.boxlt 2 rfl)).mono ?_
  rintro _ h ⟨rfl, rfl⟩
  have ls : s < h.next := Sp.lt 4 rfl rfl
  simp (disch := omega) only [i, sh, sh2, shc, shi, dec, J15_3, xs, xw, c, cw]
  refine (key27 xs ls (addr / 256)).mono ?_
  rintro _ h1 ⟨rfl, f1⟩
  have S1 := Sp.pure f1
  have xs1 : h1.get s = some (.cells (spC w tb q) .ex) := S1.cell 4 rfl
  have xw1 : h1.get w = some (.cells (wC m x t last) .ex) := S1.cell 3 rfl
  simp (disch := omega) only [i, sh, sh2, shc, shi, dec, xs, xw, xs1, xw1, c, cw]
  refine (Look_ok (S1.at 2 rfl) (S1.boxlt 2 rfl) (k : Int) (q.id, addr / 256)).mono ?_
  rintro _ h2 ⟨rfl, f2⟩
  have S2 := S1.pure f2
  have hh : ts.hart (k : Int) = ts.hart k := rfl
  unfold touchE touchT
  cases hl : lkp (ts.hart k) (q.id, addr / 256) with
  | some e =>
    simp (disch := omega) only [i, sh, sh2, shi, J15_4, ex2, Option.getD_some, Option.isSome_some, u32V]
    exact touch_end ha (h32 e hl) ⟨rfl, _, S2⟩
  | none =>
    have xs2 : h2.get s = some (.cells (spC w tb q) .ex) := S2.cell 4 rfl
    have xw2 : h2.get w = some (.cells (wC m x t last) .ex) := S2.cell 3 rfl
    have xt2 : h2.get tb = some (.cells [.ptr m 0, i q.root] .ex) := S2.cell 1 rfl
    obtain ⟨wf, a, M, lm, la⟩ := mem_of S2
    simp (disch := omega) only [i, sh, sh2, shc, shi, dec, J15_4, ex2, Option.getD_none, Option.isSome_none, u32V, xs2, xw2, c]
    refine (get28 xt2 M hr (p := addr / 256) ⟨by omega, by omega⟩).mono ?_
    rintro _ h3 ⟨rfl, rfl⟩
    have e1 : binL Try.prog .eql 53 true (.int .u32 (walkP fs.bs q.root (addr / 256))) (.int .u32 0) = some (.bool (walkP fs.bs q.root (addr / 256) == 0)) := nr (by kernel_rfl)
    by_cases hw : walkP fs.bs q.root (addr / 256) = 0
    · have e2 : (walkP fs.bs q.root (addr / 256) == 0) = true := by simp [hw]
      simp (disch := omega) only [i, sh, sh2, shc, shi, dec, e1, e2, ex2]
      rw [if_pos hw, if_pos hw]
      exact ⟨rfl, _, S2⟩
    · have e2 : (walkP fs.bs q.root (addr / 256) == 0) = false := by simp [hw]
      simp (disch := omega) only [i, sh, sh2, shc, shi, dec, e1, e2, ex2, xs2, xw2, c, cw]
      rw [if_neg hw, if_neg hw]
      refine (key27 xs2 (S2.lt 4 rfl rfl) (addr / 256)).mono ?_
      rintro _ h4 ⟨rfl, f4⟩
      have S4 := S2.pure f4
      have xs4 : h4.get s = some (.cells (spC w tb q) .ex) := S4.cell 4 rfl
      have xw4 : h4.get w = some (.cells (wC m x t last) .ex) := S4.cell 3 rfl
      simp (disch := omega) only [i, sh, sh2, shc, shi, dec, xs2, xw2, xs4, xw4, c, cw]
      refine (Fill_ok (S4.at 2 rfl) (S4.boxlt 2 rfl) (k : Int) (q.id, addr / 256) (walkP fs.bs q.root (addr / 256))).mono ?_
      rintro v h5 (⟨hno, _⟩ | ⟨k', l, hk', hlk, rfl, A⟩)
      · exact absurd ⟨by omega, by omega⟩ hno
      · obtain rfl : k = k' := by omega
        obtain ⟨S2', S5⟩ := S4.call 2 rfl A
        have hh : ts.hart (k : Int) = l := hart_in hlk
        rw [hh]
        exact touch_end ha (walkP_is _ _ _) ⟨rfl, S2', S5⟩
end
end Go.Proofs.Ytfbagndfifibiaa

namespace Go.Proofs.Ytfbagndfifibiaa
open Go.ChangeShapes Go.WideShapes Go.ChangeAt Go.RowKit Go.Lm
set_option linter.unusedSimpArgs false
set_option linter.unusedVariables false
set_option maxRecDepth 10000
/-- The frames behind two that were taken by hart k for page p: one for the page, one for its leaf. -/
def g1 (fs : FSt) (k : Nat) : FSt := (allocS fs k).1
def f1 (fs : FSt) (k : Nat) : Int := (allocS fs k).2.1
def g2 (fs : FSt) (k : Nat) : FSt := (allocS (g1 fs k) k).1
def f2 (fs : FSt) (k : Nat) : Int := (allocS (g1 fs k) k).2.1
def growFs (fs : FSt) (k : Nat) (root p fl : Int) : FSt := (g2 fs k).wb (setE (growP (g2 fs k).bs root p (f2 fs k)) (f2 fs k) p (packI (f1 fs k) fl))
def goneT (ts : TSt) (k : Nat) (sp : Int) : TSt := { ts with harts := ts.harts.set k (goneK (ts.hart k) sp) }
section
variable {F : Nat → Prop} {g h h' : LHeap} {x m a t w s tb : Nat} {q : SpS} {last root : Int} {Ts Zs : List Thing} {bs : List Int} {fs : FSt} {ts : TSt} {S S2 : Nat → Prop}
theorem give_grow (Sp : Sep F g h (SpL x m t w s tb S S2 fs ts last q Zs)) {k : Nat} (hk : k < fs.harts) (hu : usedL fs.counts + 2 ≤ fs.counts.length) (hr : fs.cnt q.root ≠ 0) {p flag fl : Int} (hp : 0 ≤ p ∧ p < 256) (hl : leafP fs.bs q.root p = none)
    (hor : binL Try.prog .or 3 true (.int .i64 1) (.int .i64 flag) = some (.int .i64 fl)) (hfl : fl = 3 ∨ fl = 5) :
    Ok Try.prog 33 [.ptr s 0, i (k : Int), i p, i flag] h fun v h' => v = .tuple [i (f1 fs k), .bool true] ∧ ∃ S', Sep F g h' (SpL x m t w s tb S' S2 (growFs fs k q.root p fl) ts last q Zs) := by
  refine ok33 fun _ _ => ?_
  have xs : h.get s = some (.cells (spC w tb q) .ex) := Sp.cell 4 rfl
  have xw : h.get w = some (.cells (wC m x t last) .ex) := Sp.cell 3 rfl
  have c := spc w tb q
  have cw := wc m x t last
  have wf := (mem_of Sp).1
  simp (disch := omega) only [F33, J33_0, i, sh, sh2, shc, shi, dec, xs, xw, c, cw]
  refine (Alloc_ok (Sp.at 0 rfl) (Sp.boxlt 0 rfl) (k : Int)).mono ?_
  rintro _ h1 ⟨rfl, A1⟩
  obtain ⟨S1', Sp1⟩ := Sp.call 0 rfl A1
  have Sp1 : Sep F g h1 (SpL x m t w s tb S1' S2 (g1 fs k) ts last q Zs) := Sp1
  obtain ⟨_, e0, hin1, hz1, _, _, hh1, hb1, hc1, hu1, hn1⟩ := (alloc_said wf hk).resolve_right fun h => by omega
  have e1 : (allocS fs (k : Int)).2.1 = f1 fs k := rfl
  rw [e0, e1]
  have wf1 : FWf (g1 fs k) := (mem_of Sp1).1
  have e2 : (allocS fs (k : Int)).1 = g1 fs k := rfl
  have e1' : (allocS fs k).2.1 = f1 fs k := rfl
  have e2' : (allocS fs k).1 = g1 fs k := rfl
  simp only [e2', e1'] at *
  have xs1 : h1.get s = some (.cells (spC w tb q) .ex) := Sp1.cell 4 rfl
  have xw1 : h1.get w = some (.cells (wC m x t last) .ex) := Sp1.cell 3 rfl
  have xt1 : h1.get tb = some (.cells [.ptr m 0, i q.root] .ex) := Sp1.cell 1 rfl
  obtain ⟨_, a, M, lm, la⟩ := mem_of Sp1
  have hroot1 : (g1 fs k).cnt q.root ≠ 0 := by
    rw [hn1]; split
    · decide
    · exact hr
  have fr1 : frameIn (g1 fs k).bs q.root := wf1.frameIn (cnt_pos hroot1)
  simp (disch := omega) only [J33_1, J33_2, J33_3, i, sh, sh2, shc, shi, dec, xs1, c]
  refine (needs48 xt1 M fr1 hp).mono ?_
  rintro _ h1 ⟨rfl, rfl⟩
  rw [hb1, hl]
  show ifB (.bool true) _ _
  simp (disch := omega) only [i, sh, sh2, shc, shi, dec, xs1, xw1, c, cw]
  refine (Alloc_ok (Sp1.at 0 rfl) (Sp1.boxlt 0 rfl) (k : Int)).mono ?_
  rintro _ h2 ⟨rfl, A2⟩
  obtain ⟨S2', Sp2⟩ := Sp1.call 0 rfl A2
  have Sp2 : Sep F g h2 (SpL x m t w s tb S2' S2 (g2 fs k) ts last q Zs) := Sp2
  obtain ⟨_, e3, hin2, hz2, _, _, hh2, hb2, hc2, hu2, hn2⟩ := (alloc_said wf1 (k := k) (by omega)).resolve_right fun h => by omega
  have e4 : (allocS (g1 fs k) (k : Int)).2.1 = f2 fs k := rfl
  rw [e3, e4]
  have e4' : (allocS (g1 fs k) k).2.1 = f2 fs k := rfl
  have e5' : (allocS (g1 fs k) k).1 = g2 fs k := rfl
  simp only [e4', e5'] at *
  have wf2 : FWf (g2 fs k) := (mem_of Sp2).1
  have xs2 : h2.get s = some (.cells (spC w tb q) .ex) := Sp2.cell 4 rfl
  have hroot2 : (g2 fs k).cnt q.root ≠ 0 := by
    rw [hn2]; split
    · decide
    · exact hroot1
  have hs2 : (g2 fs k).cnt (f2 fs k) ≠ 0 := by rw [hn2, if_pos rfl]; decide
  have hf2 : (g2 fs k).cnt (f1 fs k) ≠ 0 := by
    rw [hn2]; split
    · decide
    · rw [hn1, if_pos rfl]; decide
  have frR : frameIn (g2 fs k).bs q.root := wf2.frameIn (cnt_pos hroot2)
  have frS : frameIn (g2 fs k).bs (f2 fs k) := wf2.frameIn (cnt_pos hs2)
  have frF : frameIn (g2 fs k).bs (f1 fs k) := wf2.frameIn (cnt_pos hf2)
  have ltF := frameIn_lt wf2.bsOk frF
  have hB : isB fl := by unfold isB; omega
  have hpk := pack_is (f := f1 fs k) (l := fl) ⟨by omega, by omega⟩ hB
  have hne : packI (f1 fs k) fl ≠ 0 := by rw [packI_eq ⟨by omega, by omega⟩ hB]; omega
  have hmay : mayP (g2 fs k).bs (packI (f1 fs k) fl) := by
    unfold mayP
    rw [pack_flags ⟨by omega, by omega⟩ hB, pack_frame ⟨by omega, by omega⟩ hB, if_pos (by omega)]
    exact frF.2
  have hl2 : leafP (g2 fs k).bs q.root p = none := by rw [hb2, hb1]; exact hl
  simp (disch := omega) only [J33_4, i, sh, sh2, shc, shi, dec, xs2, c, hor]
  refine (pack51 (f1 fs k) fl).mono ?_
  rintro _ h3 ⟨rfl, rfl⟩
  simp (disch := omega) only [i, sh, sh2, shc, shi, dec, xs2, c]
  have gl := growP_len (bs := (g2 fs k).bs) (root := q.root) (p := p) (spare := f2 fs k) frR hp
  have frS' : frameIn (growP (g2 fs k).bs q.root p (f2 fs k)) (f2 fs k) := (frameIn_of gl _).2 frS
  have hlen : (setE (growP (g2 fs k).bs q.root p (f2 fs k)) (f2 fs k) p (packI (f1 fs k) fl)).length = (g2 fs k).bs.length := (setE_len frS' hp).trans gl
  have O : Only (fun z => z = q.root ∨ z = f2 fs k) (g2 fs k).bs (setE (growP (g2 fs k).bs q.root p (f2 fs k)) (f2 fs k) p (packI (f1 fs k) fl)) :=
    (only_growP frR hp).trans ((only_setE frS' hp).mono fun z h => .inr h)
  refine (mem_call (V := fun v => v = .tuple [.bool true, i 0]) Sp2 hlen (fun w => wf_only w O fun z hz => by
    rcases hz with rfl | rfl
    · exact hroot2
    · exact hs2) (fun a F' Sq bo => Set_grow Sq bo frR hp hpk hne hmay hl2 frS)).mono ?_
  rintro _ h4 ⟨rfl, S4', S4⟩
  exact ⟨S4', S4⟩
theorem spl_at {T : Thing} : (SpL x m t w s tb S S2 fs ts last q (Zs ++ [T]))[5 + Zs.length]? = some T := by
  unfold SpL
  rw [show 5 + Zs.length = Zs.length + 1 + 1 + 1 + 1 + 1 by omega]
  simp only [List.getElem?_cons_succ]
  exact Go.Lm.last_at
theorem spl_set {T T' : Thing} : (SpL x m t w s tb S S2 fs ts last q (Zs ++ [T])).set (5 + Zs.length) T' = SpL x m t w s tb S S2 fs ts last q (Zs ++ [T']) := by
  unfold SpL
  rw [show 5 + Zs.length = Zs.length + 1 + 1 + 1 + 1 + 1 by omega]
  simp only [List.set_cons_succ]
  rw [Go.Lm.set_last]
theorem spl_drop {T : Thing} (Sp : Sep F g h (SpL x m t w s tb S S2 fs ts last q (Zs ++ [T]))) : Sep F g h (SpL x m t w s tb S S2 fs ts last q Zs) := Sp.sub (by
  unfold SpL
  exact .cons_cons _ (.cons_cons _ (.cons_cons _ (.cons_cons _ (.cons_cons _ (List.sublist_append_left _ _))))))
theorem bl55 : buildL Try.prog 55 [] = some (.agg [i 0, .nils]) := nr (by kernel_rfl)
def noChange : LV := .agg [i 0, .nils]
theorem done35 (Sp : Sep F g h (SpL x m t w s tb S S2 fs ts last q Zs)) {k : Nat} (hk : k < ts.harts.length) :
    Ok Try.prog 35 [.ptr s 0, i (k : Int)] h fun v h' => v = .tuple [i 1, noChange] ∧ ∃ S2', Sep F g h' (SpL x m t w s tb S S2' fs (goneT ts k q.id) last q Zs) := by
  refine ok35 fun _ _ => ?_
  have c := spc w tb q
  have cw := wc m x t last
  have hn : newL (.agg [.int .i64 0, .nils]) h = some (.ptr h.next 0, h.alloc (.cells [.int .i64 0, .nils] .ex)) := new_agg _ _ (by simp [LV.cell])
  have S1 := Sp.new [.int .i64 0, .nils]
  generalize e1 : h.alloc (.cells [.int .i64 0, .nils] .ex) = h1 at *
  generalize hy : h.next = y at *
  have S1 : Sep F g h1 (SpL x m t w s tb S S2 fs ts last q (Zs ++ [Thing.cells y [.int .i64 0, .nils]])) := S1
  have xs1 : h1.get s = some (.cells (spC w tb q) .ex) := S1.cell 4 rfl
  have xw1 : h1.get w = some (.cells (wC m x t last) .ex) := S1.cell 3 rfl
  simp (disch := omega) only [F35, i, sh, sh2, shc, shi, dec, hn, xs1, xw1, c, cw]
  refine (Flush_ok (S1.at 2 rfl) (S1.boxlt 2 rfl) (k : Int) q.id).mono ?_
  rintro v h2 (⟨hno, _⟩ | ⟨k', l, hk', hlk, rfl, A⟩)
  · exact absurd ⟨by omega, by omega⟩ hno
  obtain rfl : k = k' := by omega
  obtain ⟨S2', S2q⟩ := S1.call 2 rfl A
  have hh : ts.hart (k : Int) = l := hart_in hlk
  have S2q : Sep F g h2 (SpL x m t w s tb S S2' fs (goneT ts k q.id) last q (Zs ++ [Thing.cells y [.int .i64 0, .nils]])) := by
    unfold goneT; rw [hh]; exact S2q
  have hyc : h2.get y = some (.cells [.int .i64 0, .nils] .ex) := S2q.cell (5 + Zs.length) spl_at
  have hb := bl55
  simp only [i] at hb
  have hst := st2 hyc (c' := .int .i64 0) (d' := .nils) rfl rfl
  simp (disch := omega) only [i, sh, sh2, shc, shi, dec, hb, hst]
  rw [ret35, ld2 _ (get_set_eq _ _ _)]
  refine ⟨rfl, S2', ?_⟩
  have S3 := S2q.store (5 + Zs.length) spl_at [.int .i64 0, .nils]
  rw [spl_set] at S3
  exact spl_drop S3
end
end Go.Proofs.Ytfbagndfifibiaa

namespace Go.Proofs.Ytfbagndfifibiaa
open Go.ChangeShapes Go.WideShapes Go.ChangeAt Go.RowKit Go.Lm
set_option linter.unusedSimpArgs false
set_option linter.unusedVariables false
set_option maxRecDepth 10000
section
variable {F : Nat → Prop} {g h h' : LHeap} {x m a t w s tb : Nat} {q : SpS} {last root : Int} {Ts Zs : List Thing} {bs : List Int} {fs : FSt} {ts : TSt} {S S2 : Nat → Prop}
theorem or12 : binL Try.prog .or 3 true (.int .i64 1) (.int .i64 2) = some (.int .i64 3) := nr (by kernel_rfl)
theorem Fault_fresh (Sp : Sep F g h (SpL x m t w s tb S S2 fs ts last q Zs)) (h256 : q.has.length = 256) {k : Nat} (hk : k < fs.harts) (hk2 : k < ts.harts.length) (hu : usedL fs.counts + 2 ≤ fs.counts.length) (hr : fs.cnt q.root ≠ 0) {addr : Int} (ha : 0 ≤ addr ∧ addr < 65536) (hhas : q.has.getD (addr / 256).toNat false = true)
    (hl : leafP fs.bs q.root (addr / 256) = none) (wr : Bool) (V : LV) :
    Ok Try.prog 16 [.ptr s 0, i (k : Int), .int .u32 addr, .bool wr, V] h fun v h' => v = .tuple [i 1, noChange] ∧ ∃ S' S2', Sep F g h' (SpL x m t w s tb S' S2' (growFs fs k q.root (addr / 256) 3) (goneT ts k q.id) last q Zs) := by
  refine ok16 fun _ _ => ?_
  have c := spc w tb q
  have hn : newL (.agg [.int .i64 0, .nils]) h = some (.ptr h.next 0, h.alloc (.cells [.int .i64 0, .nils] .ex)) := new_agg _ _ (by simp [LV.cell])
  have S1 := Sp.new [.int .i64 0, .nils]
  generalize e1 : h.alloc (.cells [.int .i64 0, .nils] .ex) = h1 at *
  generalize hy : h.next = y at *
  have S1 : Sep F g h1 (SpL x m t w s tb S S2 fs ts last q (Zs ++ [Thing.cells y [.int .i64 0, .nils]])) := S1
  have xs1 : h1.get s = some (.cells (spC w tb q) .ex) := S1.cell 4 rfl
  have xt1 : h1.get tb = some (.cells [.ptr m 0, i q.root] .ex) := S1.cell 1 rfl
  have s8 := shr8 addr ha.1
  have cv := cv64 (addr / 256)
  have w64 := wrap64 (y := addr / 256) ⟨by omega, by omega⟩
  simp (disch := omega) only [F16, J16_0, i, sh, sh2, shc, shi, dec, hn, s8, cv, w64, J16_1]
  refine (Has_ok xs1 h256 (addr / 256)).mono ?_
  rintro _ h1 ⟨rfl, rfl⟩
  rw [hhas, decide_eq_true ⟨by omega, by omega⟩]
  have tt : (true && true) = true := rfl
  rw [tt]
  simp (disch := omega) only [J16_2, i, sh, sh2, shc, shi, dec, xs1, c]
  obtain ⟨wf, a, M, lm, la⟩ := mem_of S1
  have fr : frameIn fs.bs q.root := wf.frameIn (cnt_pos hr)
  refine (get28 xt1 M fr (p := addr / 256) ⟨by omega, by omega⟩).mono ?_
  rintro _ h2 ⟨rfl, rfl⟩
  have hw : walkP fs.bs q.root (addr / 256) = 0 := by unfold walkP; rw [hl]
  have ee : binL Try.prog .eql 53 true (.int .u32 0) (.int .u32 0) = some (.bool true) := nr (by kernel_rfl)
  rw [hw]
  simp (disch := omega) only [J16_3, i, sh, sh2, shc, shi, dec, ex2, ee]
  refine (give_grow S1 hk hu hr (p := addr / 256) (flag := 2) (fl := 3) ⟨by omega, by omega⟩ hl or12 (.inl rfl)).mono ?_
  rintro _ h3 ⟨rfl, S3', S3⟩
  simp (disch := omega) only [J16_4, i, sh, sh2, shc, shi, dec, ex2]
  refine (done35 S3 hk2).mono ?_
  rintro _ h4 ⟨rfl, S4', S4⟩
  have hyc : h4.get y = some (.cells [.int .i64 0, .nils] .ex) := S4.cell (5 + Zs.length) spl_at
  have hst := st2 hyc (c' := .int .i64 0) (d' := .nils) rfl rfl
  have hst : storeV 2 (.ptr y 0) noChange h4 = some (h4.set y (.cells [.int .i64 0, .nils] .ex)) := hst
  simp (disch := omega) only [i, sh, sh2, shc, shi, dec, ex2, hst]
  rw [ret16, ld2 _ (get_set_eq _ _ _)]
  refine ⟨rfl, S3', S4', ?_⟩
  have S5 := S4.store (5 + Zs.length) spl_at [.int .i64 0, .nils]
  rw [spl_set] at S5
  exact spl_drop S5
/-! ### lives -/
theorem leaf_zero (n : Nat) (root p : Int) : leafP (zerosB n) root p = none := by
  have e : ∀ k, (zerosB n).getD k 0 = 0 := fun k => by
    unfold zerosB
    rw [List.getD_eq_getElem?_getD, List.getElem?_replicate]
    split <;> rfl
  unfold leafP wordAt
  rw [e, e, e, e]
  have h0 : wordI 0 0 0 0 = 0 := by rw [wordI_eq (by unfold isB; omega) (by unfold isB; omega) (by unfold isB; omega) (by unfold isB; omega)]; rfl
  rw [h0]
  have hf : flagsI 0 = 0 := by rw [flagsI_eq (by unfold is32; omega)]; rfl
  rw [hf, if_neg (by omega)]
end
end Go.Proofs.Ytfbagndfifibiaa

namespace Go.Proofs.Ytfbagndfifibiaa
open Go.ChangeShapes Go.WideShapes Go.ChangeAt Go.RowKit Go.Lm
set_option linter.unusedSimpArgs false
set_option linter.unusedVariables false
set_option maxRecDepth 10000
section
variable {bs : List Int} {root p p' s f e : Int}
theorem word0 : wordI 0 0 0 0 = 0 := by rw [wordI_eq (by unfold isB; omega) (by unfold isB; omega) (by unfold isB; omega) (by unfold isB; omega)]; rfl
theorem flags0 : flagsI 0 = 0 := by rw [flagsI_eq (by unfold is32; omega)]; rfl
theorem zeroF_eq (hs : frameIn bs s) : zeroF bs s = putB bs (256 * s.toNat) (zerosB 256) := by unfold zeroF; rw [if_pos hs]
theorem zerosB_len (n : Nat) : (zerosB n).length = n := by simp [zerosB]
theorem word_zero (hs : frameIn bs s) {y : Nat} (h0 : 256 * s.toNat ≤ y) (h1 : y + 4 ≤ 256 * s.toNat + 256) : wordAt (zeroF bs s) y = 0 := by
  have fit := frame_fit hs
  have e : ∀ k : Nat, k < 4 → (zeroF bs s).getD (y + k) 0 = 0 := fun k hk => by
    rw [zeroF_eq hs, getD_putB (by rw [zerosB_len]; exact fit), zerosB_len, if_pos ⟨by omega, by omega⟩]
    unfold zerosB
    rw [List.getD_eq_getElem?_getD, List.getElem?_replicate]
    split <;> rfl
  have e0 := e 0 (by omega)
  have e1 := e 1 (by omega)
  have e2 := e 2 (by omega)
  have e3 := e 3 (by omega)
  rw [Nat.add_zero] at e0
  unfold wordAt
  rw [e0, e1, e2, e3, word0]
theorem word_keep (hs : frameIn bs s) {y : Nat} (h : y + 4 ≤ 256 * s.toNat ∨ 256 * s.toNat + 256 ≤ y) : wordAt (zeroF bs s) y = wordAt bs y := by
  have fit := frame_fit hs
  rw [zeroF_eq hs]
  exact wordAt_other (by rw [zerosB_len]; exact fit) (by rw [zerosB_len]; exact h)
/-- The words behind a leaf was made and an entry set. -/
theorem grow_word (hr : frameIn bs root) (hs : frameIn bs s) (hp : 0 ≤ p ∧ p < 256) {y : Nat} (h4 : y % 4 = 0) (he : is32 e) (hpk : is32 (packI s 1)) (hne : s ≠ root) :
    wordAt (setE (growP bs root p s) s p e) y = if y = (entAt s p).toNat then e else if y = (rootAt root p).toNat then packI s 1 else if 256 * s.toNat ≤ y ∧ y < 256 * s.toNat + 256 then 0 else wordAt bs y := by
  have gl := growP_len (bs := bs) (root := root) (p := p) (spare := s) hr hp
  have efit := ent_fit (bs := growP bs root p s) (f := s) ((frameIn_of gl _).2 hs) hp
  have rfit := root_fit (bs := zeroF bs s) (root := root) ((frameIn_of (zeroF_len _ _) _).2 hr) hp
  have hs0 := hs.1
  have hr0 := hr.1
  have ea : (entAt s p).toNat % 4 = 0 := by unfold entAt; omega
  have ra : (rootAt root p).toNat % 4 = 0 := by unfold rootAt; omega
  have er : 256 * s.toNat ≤ (entAt s p).toNat ∧ (entAt s p).toNat + 4 ≤ 256 * s.toNat + 256 := by unfold entAt; omega
  have rr : 256 * root.toNat ≤ (rootAt root p).toNat ∧ (rootAt root p).toNat + 4 ≤ 256 * root.toNat + 256 := by unfold rootAt; omega
  have hl := wordB_len e 4
  have hl2 := wordB_len (packI s 1) 4
  by_cases h1 : y = (entAt s p).toNat
  · rw [if_pos h1, h1]
    exact wordAt_put he efit.2.2.2
  · rw [if_neg h1]
    have e1 : wordAt (setE (growP bs root p s) s p e) y = wordAt (growP bs root p s) y := wordAt_other (by rw [hl]; exact efit.2.2.2) (by rw [hl]; omega)
    rw [e1]
    by_cases h2 : y = (rootAt root p).toNat
    · rw [if_pos h2, h2]
      exact wordAt_put hpk rfit.2.2.2
    · rw [if_neg h2]
      have e2 : wordAt (growP bs root p s) y = wordAt (zeroF bs s) y := wordAt_other (by rw [hl2]; exact rfit.2.2.2) (by rw [hl2]; omega)
      rw [e2]
      by_cases h3 : 256 * s.toNat ≤ y ∧ y < 256 * s.toNat + 256
      · rw [if_pos h3]
        exact word_zero hs h3.1 (by omega)
      · rw [if_neg h3]
        exact word_keep hs (by omega)
theorem grow_len (hr : frameIn bs root) (hs : frameIn bs s) (hp : 0 ≤ p ∧ p < 256) : (setE (growP bs root p s) s p e).length = bs.length := by
  have gl := growP_len (bs := bs) (root := root) (p := p) (spare := s) hr hp
  exact (setE_len ((frameIn_of gl _).2 hs) hp).trans gl
theorem grow_leaf (b : bsOk bs) (hr : frameIn bs root) (hs : frameIn bs s) (hp : 0 ≤ p ∧ p < 256) (hp' : 0 ≤ p' ∧ p' < 256) (he : is32 e) (hne : s ≠ root) :
    leafP (setE (growP bs root p s) s p e) root p' = if p' / 64 = p / 64 then some s else leafP bs root p' := by
  have hs0 := hs.1
  have hr0 := hr.1
  have hlt := frameIn_lt b hs
  have hB : isB 1 := by unfold isB; omega
  have hpk : is32 (packI s 1) := pack_is ⟨by omega, by omega⟩ hB
  have ra : (rootAt root p').toNat % 4 = 0 := by unfold rootAt; omega
  have W := grow_word (y := (rootAt root p').toNat) hr hs hp ra he hpk hne
  have n1 : (rootAt root p').toNat ≠ (entAt s p).toNat := by
    unfold rootAt entAt
    intro h
    rcases Int.lt_or_gt_of_ne hne with h2 | h2 <;> omega
  have n3 : ¬ (256 * s.toNat ≤ (rootAt root p').toNat ∧ (rootAt root p').toNat < 256 * s.toNat + 256) := by
    unfold rootAt
    intro h
    rcases Int.lt_or_gt_of_ne hne with h2 | h2 <;> omega
  rw [if_neg n1, if_neg n3] at W
  unfold leafP
  rw [W, grow_len hr hs hp]
  by_cases h : p' / 64 = p / 64
  · have er : (rootAt root p').toNat = (rootAt root p).toNat := by unfold rootAt; omega
    rw [if_pos h, if_pos er, pack_flags ⟨by omega, by omega⟩ hB, pack_frame ⟨by omega, by omega⟩ hB, if_pos ⟨rfl, hs.2⟩]
  · have er : (rootAt root p').toNat ≠ (rootAt root p).toNat := by unfold rootAt; omega
    rw [if_neg h, if_neg er]
theorem grow_walk (b : bsOk bs) (hr : frameIn bs root) (hs : frameIn bs s) (hp : 0 ≤ p ∧ p < 256) (hp' : 0 ≤ p' ∧ p' < 256) (he : is32 e) (hne : s ≠ root) (hlf : ∀ f, leafP bs root p' = some f → f ≠ s ∧ f ≠ root) :
    walkP (setE (growP bs root p s) s p e) root p' = if p' = p then e else if p' / 64 = p / 64 then 0 else walkP bs root p' := by
  have hs0 := hs.1
  have hr0 := hr.1
  have hlt := frameIn_lt b hs
  have hB : isB 1 := by unfold isB; omega
  have hpk : is32 (packI s 1) := pack_is ⟨by omega, by omega⟩ hB
  unfold walkP
  rw [grow_leaf b hr hs hp hp' he hne]
  by_cases h : p' / 64 = p / 64
  · rw [if_pos h]
    show wordAt _ (entAt s p').toNat = _
    have ea : (entAt s p').toNat % 4 = 0 := by unfold entAt; omega
    rw [grow_word hr hs hp ea he hpk hne]
    by_cases h2 : p' = p
    · rw [if_pos h2, h2, if_pos rfl]
    · rw [if_neg h2, if_neg (by unfold entAt; omega), if_neg (by
        unfold rootAt entAt
        intro h
        rcases Int.lt_or_gt_of_ne hne with h2 | h2 <;> omega), if_pos (by unfold entAt; omega), if_pos h]
  · rw [if_neg h, if_neg (fun e => h (by rw [e])), if_neg h]
    cases hl : leafP bs root p' with
    | none => rfl
    | some f =>
      obtain ⟨hf1, hf2⟩ := hlf f hl
      have hf := leafP_frame hl
      have hf0 := hf.1
      show wordAt _ (entAt f p').toNat = wordAt _ (entAt f p').toNat
      have ea : (entAt f p').toNat % 4 = 0 := by unfold entAt; omega
      rw [grow_word hr hs hp ea he hpk hne, if_neg (by
        unfold entAt
        intro h
        rcases Int.lt_or_gt_of_ne hf1 with h2 | h2 <;> omega), if_neg (by
        unfold rootAt entAt
        intro h
        rcases Int.lt_or_gt_of_ne hf2 with h2 | h2 <;> omega), if_neg (by
        unfold entAt
        intro h
        rcases Int.lt_or_gt_of_ne hf1 with h2 | h2 <;> omega)]
theorem zeroF_zeros (n : Nat) (s : Int) : zeroF (zerosB n) s = zerosB n := by
  unfold zeroF
  split
  · rename_i hs
    have fit := frame_fit hs
    apply List.ext_getElem?
    intro k
    rw [putB_get (by rw [zerosB_len]; exact fit)]
    split
    · rename_i hk
      rw [zerosB_len] at hk fit
      unfold zerosB
      rw [List.getElem?_replicate, List.getElem?_replicate, if_pos (by omega), if_pos (by omega)]
    · rfl
  · rfl
theorem zeroAll_zeros (n : Nat) (first : Int) : ∀ k, zeroAll (zerosB n) first k = zerosB n
  | 0 => rfl
  | k + 1 => by rw [zeroAll_succ, zeroAll_zeros n first k, zeroF_zeros]
end
end Go.Proofs.Ytfbagndfifibiaa

namespace Go.Proofs.Ytfbagndfifibiaa
open Go.ChangeShapes Go.WideShapes Go.ChangeAt Go.RowKit Go.Lm
set_option linter.unusedSimpArgs false
set_option linter.unusedVariables false
set_option maxRecDepth 10000
theorem fs0_facts {n : Nat} (n1 : 1 ≤ n) (n2 : n ≤ 4096) : FWf (fs0 n) ∧ (fs0 n).harts = 3 ∧ usedL (fs0 n).counts = 0 ∧ (fs0 n).counts.length = n ∧ (fs0 n).bs = zerosB (256 * n) := by
  have hl := zerosB_len (256 * n)
  refine ⟨new_wf (by omega) (by omega) n1 (by omega) (by omega) (by omega) (by omega) (by omega), rfl, used_rep n, ?_, zeroAll_zeros _ _ _⟩
  show (List.replicate n (0 : Int)).length = n
  simp
def root0 (n : Nat) : Int := (allocS (fs0 n) (0 : Nat)).2.1
def fs1 (n : Nat) : FSt := newFs (fs0 n) 0
theorem fs1_facts {n : Nat} (n1 : 1 ≤ n) (n2 : n ≤ 4096) : (fs1 n).harts = 3 ∧ usedL (fs1 n).counts = 1 ∧ (fs1 n).counts.length = n ∧ (fs1 n).bs = zerosB (256 * n) ∧ (fs1 n).cnt (root0 n) = 1 := by
  obtain ⟨w, h3, u0, ln, hb⟩ := fs0_facts n1 n2
  obtain ⟨_, e0, hin, h0, hz, _, hh, hbs, hc, hu, hn⟩ := (alloc_said w (k := 0) (by omega)).resolve_right fun h => by omega
  refine ⟨hh.trans h3, by show usedL (allocS (fs0 n) (0 : Nat)).1.counts = 1; omega, hc.trans ln, ?_, ?_⟩
  · show zeroF (allocS (fs0 n) (0 : Nat)).1.bs _ = _
    rw [hbs, hb, zeroF_zeros]
  · show (allocS (fs0 n) (0 : Nat)).1.cnt (allocS (fs0 n) (0 : Nat)).2.1 = 1
    rw [hn, if_pos rfl]
theorem perm6 {A : Type} (f t w c b s : A) : [f, t, w, c, b, s].Perm [f, b, t, w, s, c] := by
  refine .cons _ ?_
  refine (List.perm_middle (l₁ := [t, w, c]) (a := b) (l₂ := [s])).trans (.cons _ ?_)
  exact .cons _ (.cons _ (.swap _ _ _))
theorem mcc (m x t w : Nat) : cellO none 3 (some (.cells (mcC m x t w) .ex)) = some (.ptr w 0) := rfl
theorem pmc_t : Try.prog.underlying 23 = some (.pointer 36) := by kernel_rfl
section
variable {F : Nat → Prop} {g h h' : LHeap} {x m a t w s tb mc : Nat} {q : SpS} {last root : Int} {Ts Zs : List Thing} {bs : List Int} {fs : FSt} {ts : TSt} {S S2 : Nat → Prop}
theorem newT_hart (k : Nat) : (newT 3 4).hart k = [] := by
  unfold TSt.hart newT
  rw [if_pos (by omega)]
  show ((List.replicate 3 ([] : List KEnt))[((k : Nat) : Int).toNat]?).getD [] = []
  rw [List.getElem?_replicate]
  split <;> rfl
/-- A machine with its first space. -/
def firstTs (n x m t w s tb mc : Nat) (S S2 : Nat → Prop) : List Thing := SpL x m t w s tb S S2 (fs1 n) (newT 3 4) 1 (newQ 1 (root0 n)) [Thing.cells mc (mcC m x t w)]
theorem first_ok {n : Nat} (n1 : 1 ≤ n) (n2 : n ≤ 4096) (Sp : Sep F g h (buildTs x m t w mc S S2 (fs0 n) (newT 3 4) 0)) : Ok Try.prog 6 [.ptr w 0, i 0] h fun v h' => ∃ S' tb s, v = .tuple [.ptr s 0, i 0] ∧ Sep F g h' (firstTs n x m t w s tb mc S' S2) := by
  obtain ⟨wf, h3, u0, ln, hb⟩ := fs0_facts n1 n2
  refine (New_sp (k := 0) Sp (by omega) (by omega) wf (by omega)).mono ?_
  rintro _ h1 ⟨S', tb, s, rfl, S1⟩
  exact ⟨S', tb, s, rfl, S1.perm (perm6 _ _ _ _ _ _)⟩
def grown (n : Nat) : FSt := growFs (fs1 n) 0 (root0 n) 0 3
theorem grown_facts {n : Nat} (n1 : 3 ≤ n) (n2 : n ≤ 4096) (wf : FWf (fs1 n)) : walkP (grown n).bs (root0 n) 0 = packI (f1 (fs1 n) 0) 3 ∧ (0 ≤ f1 (fs1 n) 0 ∧ f1 (fs1 n) 0 < 4096) ∧ allP (grown n).bs (root0 n) = [f1 (fs1 n) 0, f2 (fs1 n) 0, root0 n] ∧ frameIn (grown n).bs (root0 n) := by
  obtain ⟨h3, u1, ln, hb, hc⟩ := fs1_facts (n := n) (by omega) n2
  obtain ⟨_, e0, hin1, hz1, _, _, hh1, hb1, hc1, hu1, hn1⟩ := (alloc_said wf (k := 0) (by omega)).resolve_right fun h => by omega
  have e2' : (allocS (fs1 n) (0 : Nat)).1 = g1 (fs1 n) 0 := rfl
  have e1' : (allocS (fs1 n) (0 : Nat)).2.1 = f1 (fs1 n) 0 := rfl
  have wf1 : FWf (g1 (fs1 n) 0) := alloc_wf wf _
  simp only [e2', e1'] at *
  obtain ⟨_, e3, hin2, hz2, _, _, hh2, hb2, hc2, hu2, hn2⟩ := (alloc_said wf1 (k := 0) (by omega)).resolve_right fun h => by omega
  have e4' : (allocS (g1 (fs1 n) 0) (0 : Nat)).2.1 = f2 (fs1 n) 0 := rfl
  have e5' : (allocS (g1 (fs1 n) 0) (0 : Nat)).1 = g2 (fs1 n) 0 := rfl
  have wf2 : FWf (g2 (fs1 n) 0) := alloc_wf wf1 _
  simp only [e4', e5'] at *
  have r1 : (g1 (fs1 n) 0).cnt (root0 n) ≠ 0 := by rw [hn1]; split <;> omega
  have r2 : (g2 (fs1 n) 0).cnt (root0 n) ≠ 0 := by rw [hn2]; split <;> omega
  have s2 : (g2 (fs1 n) 0).cnt (f2 (fs1 n) 0) ≠ 0 := by rw [hn2, if_pos rfl]; decide
  have p2 : (g2 (fs1 n) 0).cnt (f1 (fs1 n) 0) ≠ 0 := by
    rw [hn2]; split
    · decide
    · rw [hn1, if_pos rfl]; decide
  have hne : f2 (fs1 n) 0 ≠ root0 n := fun e => by rw [e] at hz2; exact r1 hz2
  have frR := wf2.frameIn (cnt_pos r2)
  have frS := wf2.frameIn (cnt_pos s2)
  have frF := wf2.frameIn (cnt_pos p2)
  have bo := wf2.bsOk
  have ltF := frameIn_lt bo frF
  have hbz : (g2 (fs1 n) 0).bs = zerosB (256 * n) := by rw [hb2, hb1, hb]
  have hB3 : isB 3 := by unfold isB; omega
  have hpk := pack_is (f := f1 (fs1 n) 0) (l := 3) ⟨by omega, by omega⟩ hB3
  have hne0 : packI (f1 (fs1 n) 0) 3 ≠ 0 := by rw [packI_eq ⟨by omega, by omega⟩ hB3]; omega
  have hlf : ∀ p', leafP (g2 (fs1 n) 0).bs (root0 n) p' = none := fun p' => by rw [hbz]; exact leaf_zero _ _ _
  have hwz : ∀ p', walkP (g2 (fs1 n) 0).bs (root0 n) p' = 0 := fun p' => by unfold walkP; rw [hlf]
  have hw : ∀ p' : Int, 0 ≤ p' ∧ p' < 256 → walkP (grown n).bs (root0 n) p' = if p' = 0 then packI (f1 (fs1 n) 0) 3 else 0 := fun p' hp' => by
    have := grow_walk (e := packI (f1 (fs1 n) 0) 3) (p := 0) (p' := p') bo frR frS (by omega) hp' hpk hne (fun f hf => by rw [hlf] at hf; cases hf)
    show walkP (setE (growP (g2 (fs1 n) 0).bs (root0 n) 0 (f2 (fs1 n) 0)) (f2 (fs1 n) 0) 0 (packI (f1 (fs1 n) 0) 3)) (root0 n) p' = _
    rw [this, hwz]
    by_cases h : p' = 0
    · rw [if_pos h, if_pos h]
    · rw [if_neg h, if_neg h]; split <;> rfl
  have hlv : ∀ p' : Int, 0 ≤ p' ∧ p' < 256 → leafP (grown n).bs (root0 n) p' = if p' / 64 = 0 then some (f2 (fs1 n) 0) else none := fun p' hp' => by
    have := grow_leaf (e := packI (f1 (fs1 n) 0) 3) (p := 0) (p' := p') bo frR frS (by omega) hp' hpk hne
    show leafP (setE (growP (g2 (fs1 n) 0).bs (root0 n) 0 (f2 (fs1 n) 0)) (f2 (fs1 n) 0) 0 (packI (f1 (fs1 n) 0) 3)) (root0 n) p' = _
    rw [this, hlf]
    rfl
  have h0 := hw 0 ⟨by omega, by omega⟩
  rw [if_pos rfl] at h0
  refine ⟨h0, ltF, ?_, (frameIn_of (grow_len frR frS (by omega)) _).2 frR⟩
  have ents : ∀ k : Nat, 1 ≤ k → k ≤ 256 → entsP (grown n).bs (root0 n) k = [f1 (fs1 n) 0] := by
    intro k
    induction k with
    | zero => intro h; omega
    | succ k ih =>
      intro _ hk
      rw [entsP_succ]
      by_cases hk0 : k = 0
      · subst hk0
        have h0' : walkP (grown n).bs (root0 n) ((0 : Nat) : Int) = packI (f1 (fs1 n) 0) 3 := h0
        rw [h0', if_neg hne0, pack_frame ⟨by omega, by omega⟩ hB3]
        rfl
      · have hk' : walkP (grown n).bs (root0 n) (k : Int) = 0 := by rw [hw k ⟨by omega, by omega⟩, if_neg (by omega)]
        rw [ih (by omega) (by omega), if_pos hk']
        rfl
  unfold allP
  rw [ents 256 (by omega) (by omega)]
  have lv : leavesP (grown n).bs (root0 n) 4 = [f2 (fs1 n) 0] := by
    rw [leavesP_succ, leavesP_succ, leavesP_succ, leavesP_succ]
    rw [hlv (64 * ((0 : Nat) : Int)) (by omega), hlv (64 * ((1 : Nat) : Int)) (by omega), hlv (64 * ((2 : Nat) : Int)) (by omega), hlv (64 * ((3 : Nat) : Int)) (by omega)]
    rfl
  rw [lv]
  rfl
theorem free02 (id root : Int) : freeP (newQ id root) 0 2 = true := by
  rfl
theorem has02 (id root : Int) : (mapP (newQ id root) 0 2).has.getD 0 false = true ∧ (mapP (newQ id root) 0 2).has.length = 256 := by
  exact ⟨rfl, rfl⟩
theorem gone_new : goneT (newT 3 4) 0 1 = newT 3 4 := rfl
theorem and32 : andI 3 2 = 2 := by decide
theorem touchE_none {k : Nat} {p : Int} (hl : lkp (ts.hart k) (q.id, p) = none) : touchE fs ts q k p = if walkP fs.bs q.root p = 0 then none else some (walkP fs.bs q.root p) := by unfold touchE; rw [hl]
theorem touchT_zero {k : Nat} {p : Int} (hl : lkp (ts.hart k) (q.id, p) = none) (h0 : walkP fs.bs q.root p = 0) : touchT fs ts q k p = ts := by unfold touchT; rw [hl]; simp only []; rw [if_pos h0]
theorem lives_ok : Ok Try.prog 5 [] g fun v h => v = .bool true ∧ Fr noF g h := by
  refine ok5 fun _ _ => ?_
  have pm := (nil_p (P := Try.prog) pmc_t true).1
  have psn := (nil_p (P := Try.prog) ps_t true).1
  simp (disch := omega) only [F5]
  refine (build_ok (n := 20) (by omega) (by omega)).mono ?_
  rintro _ h1 ⟨x, m, t, w, mc, S1, S2, rfl, Sp1⟩
  have xm : h1.get mc = some (.cells (mcC m x t w) .ex) := Sp1.cell 3 rfl
  have c3 := mcc m x t w
  simp (disch := omega) only [i, sh, sh2, shc, shi, dec, pm, xm, c3]
  refine (first_ok (n := 20) (by omega) (by omega) Sp1).mono ?_
  rintro _ h2 ⟨S3, tb, s, rfl, Sp2⟩
  have Sp2 : Sep noF g h2 (SpL x m t w s tb S3 S2 (fs1 20) (newT 3 4) 1 (newQ 1 (root0 20)) [Thing.cells mc (mcC m x t w)]) := Sp2
  have wf1 := (mem_of Sp2).1
  obtain ⟨h3, u1, ln, hb, hc⟩ := fs1_facts (n := 20) (by omega) (by omega)
  obtain ⟨hw, ltF, hall, frR⟩ := grown_facts (n := 20) (by omega) (by omega) wf1
  simp (disch := omega) only [i, sh, sh2, shc, shi, dec, psn]
  refine (Map_ok (Sp2.cell 4 rfl) (by simp [newQ]) (f := 0) (n := 2) (by omega) (by omega)).mono ?_
  rintro v h4 (⟨hno, _⟩ | ⟨_, hno, _⟩ | ⟨_, _, rfl, T⟩)
  · exact absurd ⟨by omega, by omega, by omega, by omega⟩ hno
  · rw [free02] at hno; cases hno
  have Sp4 : Sep noF g h4 (SpL x m t w s tb S3 S2 (fs1 20) (newT 3 4) 1 (mapP (newQ 1 (root0 20)) 0 2) [Thing.cells mc (mcC m x t w)]) := to_put Sp2 4 rfl T
  obtain ⟨hh0, h256⟩ := has02 1 (root0 20)
  simp (disch := omega) only [i, sh, sh2, shc, shi, dec]
  have fr1 : frameIn (fs1 20).bs (root0 20) := wf1.frameIn (cnt_pos (by omega))
  have hl0 : leafP (fs1 20).bs (root0 20) (5 / 256) = none := by rw [hb]; exact leaf_zero _ _ _
  have hw0 : walkP (fs1 20).bs (root0 20) (5 / 256) = 0 := by unfold walkP; rw [hl0]
  have hlk : ∀ p, lkp ((newT 3 4).hart ((0 : Nat) : Int)) (1, p) = none := fun p => by rw [newT_hart]; rfl
  refine (Touch_ok (k := 0) (addr := 5) Sp4 fr1 (by show 0 < 3; omega) (by omega) true (fun e he => by
    have he : lkp ((newT 3 4).hart ((0 : Nat) : Int)) (1, 5 / 256) = some e := he
    rw [hlk] at he; cases he)).mono ?_
  rintro v h5 ⟨hv, S5, Sp5⟩
  have t1 : touchE (fs1 20) (newT 3 4) (mapP (newQ 1 (root0 20)) 0 2) 0 (5 / 256) = none := (touchE_none (hlk _)).trans (if_pos hw0)
  have t2 : touchT (fs1 20) (newT 3 4) (mapP (newQ 1 (root0 20)) 0 2) 0 (5 / 256) = newT 3 4 := touchT_zero (hlk _) hw0
  rw [t1] at hv
  rw [t2] at Sp5
  have ev : resV (Option.bind none fun e => addrP e 5 true) = .tuple [i 0, i 51] := rfl
  rw [ev] at hv
  rw [hv]
  simp (disch := omega) only [i, sh, sh2, shc, shi, dec]
  refine (Fault_fresh (k := 0) (addr := 5) Sp5 h256 (by omega) (by show 0 < 3; omega) (by omega) (by show (fs1 20).cnt (root0 20) ≠ 0; omega) (by omega) hh0 hl0 true .nils).mono ?_
  rintro _ h6 ⟨rfl, S6, S6', Sp6⟩
  have Sp6 : Sep noF g h6 (SpL x m t w s tb S6 S6' (grown 20) (goneT (newT 3 4) 0 1) 1 (mapP (newQ 1 (root0 20)) 0 2) [Thing.cells mc (mcC m x t w)]) := Sp6
  rw [gone_new] at Sp6
  have hn : newL (.agg [.int .i64 0, .nils]) h6 = some (.ptr h6.next 0, h6.alloc (.cells [.int .i64 0, .nils] .ex)) := new_agg _ _ (by simp [LV.cell])
  have hst := st2 (h := h6.alloc (.cells [.int .i64 0, .nils] .ex)) (a := h6.next) (get_alloc_eq _ _) (c' := .int .i64 0) (d' := .nils) rfl rfl
  have Sp7 := (Sp6.new [.int .i64 0, .nils]).store 6 rfl [.int .i64 0, .nils]
  have Sp7 := (Sp7.init (Ts := SpL x m t w s tb S6 S6' (grown 20) (newT 3 4) 1 (mapP (newQ 1 (root0 20)) 0 2) [Thing.cells mc (mcC m x t w)]))
  generalize e7 : (h6.alloc (.cells [.int .i64 0, .nils] .ex)).set h6.next (.cells [.int .i64 0, .nils] .ex) = h7 at *
  have hst : storeV 2 (.ptr h6.next 0) noChange (h6.alloc (.cells [.int .i64 0, .nils] .ex)) = some h7 := hst
  simp (disch := omega) only [i, sh, sh2, shc, shi, dec, hn, hst]
  refine (Touch_ok (k := 0) (addr := 5) Sp7 frR (by show 0 < 3; omega) (by omega) true (fun e he => by
    have he : lkp ((newT 3 4).hart ((0 : Nat) : Int)) (1, 5 / 256) = some e := he
    rw [hlk] at he; cases he)).mono ?_
  rintro v h8 ⟨hv, S8, Sp8⟩
  have hB3 : isB 3 := by unfold isB; omega
  have hne0 : packI (f1 (fs1 20) 0) 3 ≠ 0 := by rw [packI_eq ⟨by omega, by omega⟩ hB3]; omega
  have hw' : walkP (grown 20).bs (root0 20) (5 / 256) = packI (f1 (fs1 20) 0) 3 := hw
  have t3 : touchE (grown 20) (newT 3 4) (mapP (newQ 1 (root0 20)) 0 2) 0 (5 / 256) = some (packI (f1 (fs1 20) 0) 3) := by
    refine (touchE_none (hlk _)).trans ?_
    have hw2 : walkP (grown 20).bs (mapP (newQ 1 (root0 20)) 0 2).root (5 / 256) = packI (f1 (fs1 20) 0) 3 := hw'
    rw [hw2, if_neg hne0]
  rw [t3] at hv
  have ad : ∃ p, addrP (packI (f1 (fs1 20) 0) 3) 5 true = some p := by
    unfold addrP
    rw [pack_flags ⟨by omega, by omega⟩ hB3, and32, if_neg (by omega)]
    exact ⟨_, rfl⟩
  obtain ⟨pa, ad⟩ := ad
  have ev2 : resV (Option.bind (some (packI (f1 (fs1 20) 0) 3)) fun e => addrP e 5 true) = .tuple [i pa, i 0] := by
    show resV (addrP _ _ _) = _
    rw [ad]; rfl
  rw [ev2] at hv
  rw [hv]
  simp (disch := omega) only [i, sh, sh2, shc, shi, dec]
  obtain ⟨_, a, M, lm, la⟩ := mem_of Sp8
  refine (Frames17_ok (q := mapP (newQ 1 (root0 20)) 0 2) (Sp8.cell 4 rfl) (Sp8.cell 1 rfl) M frR lm la (Sp8.lt 1 rfl rfl) (Sp8.lt 4 rfl rfl)).mono ?_
  rintro _ h9 ⟨rfl, f9⟩
  have hal : ((allP (grown 20).bs (mapP (newQ 1 (root0 20)) 0 2).root).length : Int) = 3 := by
    show ((allP (grown 20).bs (root0 20)).length : Int) = 3
    rw [hall]; rfl
  rw [hal]
  simp (disch := omega) only [i, sh, sh2, shc, shi, dec]
  exact (Sp8.pure f9).fr
end
end Go.Proofs.Ytfbagndfifibiaa
