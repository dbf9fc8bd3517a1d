/-
  frame, the law: looks, whole.
-/
import Derived.Test.YtoajcekgoalhjaaFrY
set_option linter.all false
namespace Go.Proofs.Ytoajcekgoalhjaa
open Go.ChangeShapes Go.WideShapes Go.ChangeAt Go.RowKit Go.Lm
set_option linter.unusedSimpArgs false
set_option linter.unusedVariables false
set_option maxRecDepth 10000
theorem vK_of {o : Option LV} {v : LV} {K : LV → Prop} (h : o = some v) (k : K v) : vK o K := by rw [h]; exact k
theorem gdV_of {o : Option LV} {v : LV} {K : LV → Prop} (h : o = some v) (k : K v) : gdV (.bool true) true o K := by rw [gdV_true]; exact vK_of h k
theorem gdD_of {o : Option LV} {v : LV} {K : LV → Prop} {N : Prop} (h : o = some v) (k : K v) : gdD (.bool true) true o K N := by rw [gdD_true]; exact vK_of h k
theorem gd_of {g : LHeap} {op : (LV → LHeap → Prop) → Prop} {K : LV → LHeap → Prop} (k : op K) : gd (.bool true) true g op K := by rw [gd_true]; exact k
theorem gK_of {o : Option LHeap} {v : LHeap} {K : LHeap → Prop} (h : o = some v) (k : K v) : gK o K := by rw [h]; exact k
section
variable {F : Nat → Prop} {g h h' : LHeap} {x y m a k c : Nat} {cs Vs : List LV} {CV CC SV W : LV} {counts common bs bs' : List Int} {rs : List FX} {r : FX} {Zs Ts : List Thing} {st : FSt} {S Q : Nat → Prop} {first : Int} {harts : Nat} {V U : LV} {l l2 : List Int}
theorem eq_t {t : TypeId} {lit : Bool} {a b : Int} (h : a = b) : binL Try.prog .eql t lit (.int .i64 a) (.int .i64 b) = some (.bool true) := by
  subst h
  have : binL Try.prog .eql t lit (.int .i64 a) (.int .i64 a) = some (.bool (a == a)) := by exact binL_eql_int _ _ _ _ _
  rw [this]; simp
theorem ld_at {b off : Nat} {cs : List LV} {v : LV} (e : h.get b = some (.cells cs .ex)) (hv : cs[off]? = some v) : loadV none (.ptr b off) h = some v := by rw [load_o, e, cell_o]; exact hv
set_option maxHeartbeats 1000000 in
theorem looks_tail {t3 t4 t7 : Nat} (Sp : Sep F g h [FBox x m S st, RBox y Q st, Thing.cells t3 [.ptr y 0], Thing.cells t4 [.bool false], Thing.cells t7 [i (usedL st.counts)]]) : J38_4 (.ptr x 0) (.ptr t3 0) (.ptr t4 0) (.ptr t7 0) h fun v h' => v = .bool true ∧ ∃ S' Q', Sep F g h' [FBox x m S' st, RBox y Q' st] := by
  have w := boxWf (Sp.at 0 rfl)
  have bd := w.bounds
  have i2 := w.I2
  have hul := usedL_le st.counts
  obtain ⟨CV, SV, CC, rs, Sr, hl, _⟩ := rd_open (Sp.at 1 rfl) (Sp.boxlt 1 rfl)
  have x3 : h.get t3 = some (.cells [.ptr y 0] .ex) := Sp.cell 2 rfl
  have x7 : h.get t7 = some (.cells [i (usedL st.counts)] .ex) := Sp.cell 4 rfl
  have ld3 : loadV none (.ptr t3 0) h = some (.ptr y 0) := ld_at x3 rfl
  have ld7 : loadV none (.ptr t7 0) h = some (i (usedL st.counts)) := ld_at x7 rfl
  have x0 := rg_x Sr
  have ly1 : loadV none (.ptr y (0 + 1)) h = some CV := ld_at x0 rfl
  have ly3 : loadV none (.ptr y (0 + 3)) h = some CC := ld_at x0 rfl
  have hcv : lenL Try.prog 50 CV h = some (.int .i64 (st.counts.length : Int)) := (rg_cv Sr).len (P := Try.prog) ty50 h
  have hsub : binL Try.prog .sub 3 false (.int .i64 (st.counts.length : Int)) (.int .i64 (usedL st.counts : Int)) = some (.int .i64 ((st.counts.length : Int) - usedL st.counts)) := by
    rw [binL_sub_int, wrap_in (by omega) (by omega)]
  unfold J38_4
  refine vK_of ld7 ?_
  refine vK_of ld3 ?_
  refine ⟨?_, trivial⟩
  refine (rusedB (Sp.at 1 rfl) (Sp.boxlt 1 rfl)).mono ?_
  rintro _ _ ⟨rfl, rfl⟩
  refine ⟨ld7, ?_⟩
  refine vK_of (eq_t rfl) ?_
  refine gdV_of rfl ?_
  refine gdD_of ld7 ?_
  refine ⟨gd_of ?_, trivial⟩
  refine (usedB (Sp.at 0 rfl) (Sp.boxlt 0 rfl)).mono ?_
  rintro _ _ ⟨rfl, rfl⟩
  refine ⟨ld7, ?_⟩
  refine gdV_of (eq_t rfl) ?_
  refine vK_of (v := .bool true) rfl ?_
  refine gdV_of rfl ?_
  refine gdD_of ld3 ?_
  refine gdV_of (v := .ptr y 0) rfl ?_
  refine gdV_of (v := .ptr y (0 + 1)) rfl ?_
  refine gdD_of ly1 ?_
  refine gdV_of hcv ?_
  refine gdD_of ld7 ?_
  refine gdV_of hsub ?_
  refine ⟨gd_of ?_, trivial⟩
  refine (freeB (Sp.at 0 rfl) (Sp.boxlt 0 rfl)).mono ?_
  rintro _ _ ⟨rfl, rfl⟩
  refine ⟨ld7, ly1, ld3, ?_⟩
  refine gdV_of (eq_t (by omega)) ?_
  refine vK_of (v := .bool true) rfl ?_
  refine gdV_of rfl ?_
  refine gdD_of ld3 ?_
  refine gdV_of (v := .ptr y 0) rfl ?_
  refine gdV_of (v := .ptr y (0 + 3)) rfl ?_
  refine gdD_of ly3 ?_
  refine ⟨gd_of ?_, trivial⟩
  refine (commonB (Sp.at 0 rfl) (Sp.boxlt 0 rfl)).mono ?_
  rintro V1 h1 ⟨O1, mi1, f1⟩
  have S1 := Sp.pure f1
  have Sr1 := Sr.pure f1
  have ld31 : loadV none (.ptr t3 0) h1 = some (.ptr y 0) := ld_at (S1.cell 2 rfl) rfl
  have ly31 : loadV none (.ptr y (0 + 3)) h1 = some CC := ld_at (rg_x Sr1) rfl
  have hfl := w.freeLe
  refine ⟨ly31, ld31, gd_of ?_, trivial⟩
  refine (same51_ok O1.row (rg_cc Sr1) (by unfold FSt.freeN at hfl; omega) (by unfold FSt.freeN at hfl; omega)).mono ?_
  rintro _ _ ⟨rfl, rfl⟩
  rw [decide_eq_true (rfl : st.common = st.common)]
  refine vK_of (v := .bool true) rfl ?_
  refine gdV_of rfl ?_
  refine ⟨gd_of ?_, trivial⟩
  refine (Right_ok (S1.at 0 rfl) (S1.boxlt 0 rfl)).mono ?_
  rintro _ h2 ⟨rfl, A2⟩
  obtain ⟨S2', S2⟩ := S1.call 0 rfl A2
  have S2 : Sep F g h2 [FBox x m S2' st, RBox y Q st, Thing.cells t3 [.ptr y 0], Thing.cells t4 [.bool false], Thing.cells t7 [i (usedL st.counts)]] := S2
  refine vK_of (v := .bool true) rfl ?_
  refine gdV_of rfl ?_
  refine ⟨gd_of ?_, trivial⟩
  refine (listB (S2.at 0 rfl) (S2.boxlt 0 rfl) (-1)).mono ?_
  rintro V3 h3 ⟨O3, mi3, f3⟩
  have S3 := S2.pure f3
  have n3 : ¬ st.isH (-1) := by unfold FSt.isH; omega
  rw [if_neg n3] at O3
  have hl3 := O3.row.len (P := Try.prog) ty50 h3
  obtain ⟨CV3, SV3, CC3, rs3, Sr3, hlr3, _⟩ := rd_open (S3.at 1 rfl) (S3.boxlt 1 rfl)
  have ld33 : loadV none (.ptr t3 0) h3 = some (.ptr y 0) := ld_at (S3.cell 2 rfl) rfl
  have ly23 : loadV none (.ptr y (0 + 2)) h3 = some SV3 := ld_at (rg_x Sr3) rfl
  have h8 := rd_len hlr3.1 w
  have hls : lenL Try.prog 103 SV3 h3 = some (.int .i64 (st.harts : Int)) := by rw [(rg_sv Sr3).len ty103, List.length_map, h8]
  refine gdV_of hl3 ?_
  refine gdV_of (eq_t rfl) ?_
  refine vK_of (v := .bool true) rfl ?_
  refine gdV_of rfl ?_
  refine gdD_of ld33 ?_
  refine gdV_of (v := .ptr y 0) rfl ?_
  refine gdV_of (v := .ptr y (0 + 2)) rfl ?_
  refine gdD_of ly23 ?_
  refine gdV_of hls ?_
  refine ⟨gd_of ?_, trivial⟩
  refine (listB (S3.at 0 rfl) (S3.boxlt 0 rfl) (st.harts : Int)).mono ?_
  rintro V4 h4 ⟨O4, mi4, f4⟩
  have S4 := S3.pure f4
  have n4 : ¬ st.isH (st.harts : Int) := by unfold FSt.isH; omega
  rw [if_neg n4] at O4
  have hl4 := O4.row.len (P := Try.prog) ty50 h4
  refine gdV_of hl4 ?_
  refine gdV_of (eq_t rfl) ?_
  refine vK_of (v := .bool true) rfl ?_
  have x4 : h4.get t4 = some (.cells [.bool false] .ex) := S4.cell 3 rfl
  have S5 := S4.store 3 rfl [.bool true]
  refine ⟨gK_of (v := h4.set t4 (.cells [.bool true] .ex)) (by rw [store_o _ _ _ rfl, x4]; rfl) ?_, trivial⟩
  rw [ret38]
  refine vK_of (ld_at (get_set_eq _ _ _) rfl) ?_
  exact ⟨rfl, _, _, S5.sub (.cons_cons _ (.cons_cons _ (.cons _ (.cons _ (.cons _ .slnil)))))⟩
theorem looks_ok (Sp : Sep F g h [FBox x m S st, RBox y Q st]) : Ok Try.prog 38 [.ptr x 0, .ptr y 0] h fun v h' => v = .bool true ∧ ∃ S' Q', Sep F g h' [FBox x m S' st, RBox y Q' st] := by
  refine ok38 fun _ _ => ?_
  have n3 := new_cell (v := .ptr y 0) h rfl
  have S1 := Sp.new [.ptr y 0]
  generalize e1 : h.alloc (.cells [.ptr y 0] .ex) = h1 at *
  have n4 := new_cell (v := .bool false) h1 rfl
  have S2 := S1.new [.bool false]
  generalize e2 : h1.alloc (.cells [.bool false] .ex) = h2 at *
  simp (disch := omega) only [F38, sh, sh2, n3, n4]
  exact looks_lists S2 fun h3 S3 => looks_walk S3 fun h4 S' t7 S4 => looks_break S4 fun h5 S'' S5 => looks_tail S5
end
end Go.Proofs.Ytoajcekgoalhjaa
