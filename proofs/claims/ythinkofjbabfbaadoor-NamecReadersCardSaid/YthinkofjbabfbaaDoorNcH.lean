/-
  namec's reference: its cache.
-/
import Derived.Test.YthinkofjbabfbaaDoorNcG
set_option linter.all false
namespace Go.Proofs.YthinkofjbabfbaaDoor
open Go.ChangeShapes Go.WideShapes Go.ChangeAt Go.RowKit Go.Lm
set_option linter.unusedSimpArgs false
set_option linter.unusedVariables false
set_option maxRecDepth 10000
def keptE : Enc KE := ⟨fun e => [i e.1.1, .str e.1.2, i e.2.1, i e.2.2], 4, fun _ => rfl, fun c v h => by
  simp only [List.mem_cons, List.not_mem_nil, or_false] at h
  rcases h with rfl | rfl | rfl | rfl <;> rfl, by decide⟩
theorem ty37 : Tryd.prog.underlying 37 = some (.slice 54) := by kernel_rfl
theorem sz54 : sizeL Tryd.prog 54 = some 4 := by kernel_rfl
theorem bs37_0 (h : LHeap) : buildSliceL Tryd.prog 37 0 [] h = some (.slice h.next 0 0 (.ex 0), h.alloc (.cells [] .ex)) := nr (by kernel_rfl)
theorem ap37 {V U : LV} (hU : U.isStr = false) (g : LHeap) : builtinL Tryd.prog .append [37, 37] [V, U] g = appendL 4 40 V U g := append_ok (by kernel_rfl) hU g
theorem bs37_1 (h : LHeap) (e : KE) : buildSliceL Tryd.prog 37 1 [(0, .agg (keptE.f e))] h = some (.slice h.next 0 1 (.ex 1), h.alloc (.cells (keptE.f e) .ex)) := by
  have : ∀ a b c d, buildSliceL Tryd.prog 37 1 [(0, .agg [.int .i64 a, .str b, .int .i64 c, .int .i64 d])] h = some (.slice h.next 0 1 (.ex 1), h.alloc (.cells [.int .i64 a, .str b, .int .i64 c, .int .i64 d] .ex)) := fun a b c d => nr (by kernel_rfl)
  exact this e.1.1 e.1.2 e.2.1 e.2.2
theorem bl54 (k : NKey) (x y : Int) : buildL Tryd.prog 54 [(0, .agg (nameE.f k)), (1, .int .i64 x), (2, .int .i64 y)] = some (.agg (keptE.f (k, x, y))) := nr (by kernel_rfl)
def RTg (x : Nat) (room : Int) (LV' : LV) (L : List KE) (last : Int) (GV : LV) (gone : List Int) : List Thing :=
  [Thing.cells x [i room, LV', i last, GV], Thing.vec keptE LV' L, Thing.vec intE GV gone]
abbrev RTs (x : Nat) (LV' GV : LV) (st : NSt) : List Thing := RTg x st.room LV' st.L st.last GV (st.waits.map (·.1))
theorem cut37_hi {h : LHeap} {W : LV} {l : List KE} (R : Row h W keptE l) (C : Capd W 4) {j : Nat} (hj : j ≤ l.length) : ∃ U, cutT Tryd.prog 37 W none (some (.int .i64 (j : Int))) none (limL W h) = some U ∧ Row h U keptE (l.take j) ∧ ∀ b, U.obj = some b → W.obj = some b := by
  obtain ⟨U, e, R', _, ob, _⟩ := R.cut C (i := 0) (j := j) (by omega) hj none (some j) rfl rfl
  exact ⟨U, ((cut_t ty37 sz54 (by decide) W (limL W h)).1 _ _).trans e, by simpa using R', ob⟩
theorem cut37_lo {h : LHeap} {W : LV} {l : List KE} (R : Row h W keptE l) (C : Capd W 4) {j : Nat} (hj : j ≤ l.length) : ∃ U, cutT Tryd.prog 37 W (some (.int .i64 (j : Int))) none none (limL W h) = some U ∧ Row h U keptE (l.drop j) ∧ ∀ b, U.obj = some b → W.obj = some b := by
  obtain ⟨U, e, R', _, ob, _⟩ := R.cut C (i := j) (j := l.length) hj (Nat.le_refl _) (some j) none rfl rfl
  refine ⟨U, ((cut_t ty37 sz54 (by decide) W (limL W h)).2.1 _ _).trans e, ?_, ob⟩
  rwa [List.take_of_length_le (by simp)] at R'
def idxK (L : List KE) (k : NKey) : Int := firstOf (fun e => decide (e.1 = k)) L
theorem idxK_none {L : List KE} {k : NKey} (h : look L k = none) : idxK L k = -1 := by
  have := look_none_k.1 h
  unfold idxK
  clear h
  induction L with
  | nil => rfl
  | cons e L ih =>
    have h1 := this e (List.mem_cons_self ..)
    simp only [firstOf]
    rw [if_neg (by simpa using h1), if_pos (ih fun x hx => this x (List.mem_cons_of_mem _ hx))]
theorem idxK_some {L : List KE} {k : NKey} {e : KE} (h : look L k = some e) : ∃ j : Nat, idxK L k = j ∧ L[j]? = some e := by
  unfold idxK
  induction L with
  | nil => cases h
  | cons x L ih =>
    by_cases hx : x.1 = k
    · have : look (x :: L) k = some x := by unfold look; simp [hx]
      rw [this] at h; cases h
      exact ⟨0, by simp [firstOf, hx], rfl⟩
    · have : look (x :: L) k = look L k := by unfold look; simp [hx]
      rw [this] at h
      obtain ⟨j, h1, h2⟩ := ih h
      refine ⟨j + 1, ?_, by simpa using h2⟩
      simp only [firstOf]
      rw [if_neg (by simpa using hx), if_neg (by omega), h1]; omega
theorem look_at {L : List KE} (nd : (keysS L).Nodup) {j : Nat} {e : KE} (h : L[j]? = some e) : look L e.1 = some e ∧ dropK L e.1 = L.take j ++ L.drop (j + 1) := by
  have hj := (List.getElem?_eq_some_iff.1 h).1
  have e0 : L = L.take j ++ e :: L.drop (j + 1) := by
    have := List.take_append_drop j L
    rw [List.drop_eq_getElem_cons hj, (List.getElem?_eq_some_iff.1 h).2] at this
    exact this.symm
  generalize L.take j = a at *
  generalize L.drop (j + 1) = b at *
  subst e0
  have nd' := nd
  unfold keysS at nd'
  rw [List.map_append, List.map_cons, List.nodup_append, List.nodup_cons] at nd'
  obtain ⟨n1, ⟨n2, n3⟩, n4⟩ := nd'
  have ha : ∀ x ∈ a, x.1 ≠ e.1 := fun x hx e' => n4 _ (List.mem_map.2 ⟨x, hx, rfl⟩) _ (List.mem_cons_self ..) e'
  have hb : ∀ x ∈ b, x.1 ≠ e.1 := fun x hx e' => n2 (List.mem_map.2 ⟨x, hx, e'⟩)
  constructor
  · unfold look
    rw [List.find?_append, List.find?_eq_none.2 (fun x hx => by simpa using ha x hx)]
    simp
  · unfold dropK
    rw [List.filter_append, List.filter_cons, List.filter_eq_self.2 (fun x hx => by simpa using ha x hx), List.filter_eq_self.2 (fun x hx => by simpa using hb x hx)]
    simp
section
variable {F : Nat → Prop} {g h : LHeap} {x : Nat} {LV' GV : LV} {st : NSt} {Zs : List Thing}
theorem rt_last {room last : Int} {L : List KE} {gone : List Int} {T : Thing} : (RTg x room LV' L last GV gone ++ (Zs ++ [T]))[3 + Zs.length]? = some T := by
  unfold RTg
  rw [List.getElem?_append_right (by simp)]
  simp
/-- find. -/
theorem find_ok (Sp : Sep F g h (RTs x LV' GV st ++ Zs)) (w : NWf st) (k : NKey) : Ok Tryd.prog 56 [.ptr x 0, .agg (nameE.f k)] h fun v h' => v = i (idxK st.L k) ∧ Fr noF h h' := by
  refine ok56 fun wf _ => ?_
  have hn : newL (.agg (nameE.f k)) h = some (.ptr h.next 0, h.alloc (.cells (nameE.f k) .ex)) := new_agg _ _ (nameE.cell k)
  have S1 := Sp.new (nameE.f k)
  have f1 : Fr noF h (h.alloc (.cells (nameE.f k) .ex)) := Fr.alloc _ _
  generalize ht : h.next = t3 at *
  generalize hh : h.alloc (.cells (nameE.f k) .ex) = h1 at *
  have x1 := S1.cell (a := x) (vs := [i st.room, LV', i st.last, GV]) 0 rfl
  have xk : h1.get t3 = some (.cells (nameE.f k) .ex) := S1.cell _ last_at
  have R1 := S1.row (E := keptE) (V := LV') (l := st.L) 1 rfl
  have hl := fun g' => R1.len (P := Tryd.prog) ty37 (g' := g')
  have hL := w.len
  have hr := w.room
  simp (disch := omega) only [F56, J56_0, J56_2, i, sh, sh2, hn]
  refine loop_n (fun n (s : LV) h' => ∃ j : Nat, s = i (j : Int) ∧ j + n = st.L.length ∧ h' = h1 ∧ idxK st.L k = (if firstOf (fun e => decide (e.1 = k)) (st.L.drop j) = -1 then -1 else firstOf (fun e => decide (e.1 = k)) (st.L.drop j) + j)) (n := st.L.length) ⟨0, rfl, by omega, rfl, by
    rw [List.drop_zero]; unfold idxK; split <;> omega⟩ ?_
  rintro n s h' ⟨j, rfl, hj, rfl, hi⟩
  cases n with
  | zero =>
    rw [List.drop_of_length_le (by omega)] at hi
    simp (disch := omega) only [L56_3, J56_1, i, sh, sh2, shc, shi, dec, x1, b_len, hl]
    exact ⟨by rw [hi]; simp [firstOf], f1⟩
  | succ n =>
    obtain ⟨y, hy, hd⟩ := drop_at (l := st.L) (k := j) (by omega)
    have ix := R1.ix (k := .i64) (i := j) (by omega)
    obtain ⟨a, off, e1, _, ef⟩ := R1.fla hy
    have e4 : keptE.e = 4 := rfl
    rw [e4] at ix e1
    rw [e1] at ix
    have ef0 := ef 0 2 (by decide)
    have ef0 : cellO (some 2) off (h'.get a) = some (.agg (nameE.f y.1)) := ef0
    have eq := name_eqD y.1 k
    rw [hd] at hi
    by_cases hk : y.1 = k
    · rw [decide_eq_true hk] at eq
      simp (disch := omega) only [L56_3, i, sh, sh2, shc, shi, dec, x1, b_len, hl, ix, ef0, xk, name_cell, eq]
      exact ⟨by rw [hi]; simp [firstOf, hk], f1⟩
    · rw [decide_eq_false hk] at eq
      simp (disch := omega) only [L56_3, i, sh, sh2, shc, shi, dec, x1, b_len, hl, ix, ef0, xk, name_cell, eq]
      refine ⟨n, by omega, j + 1, by simp, by omega, ?_⟩
      rw [hi]
      exact firstOf_step (by simp [hk])
set_option maxHeartbeats 1000000 in
/-- drop. -/
theorem drop_ok (Sp : Sep F g h (RTs x LV' GV st ++ Zs)) (w : NWf st) (hl : st.last < 2 ^ 42) {j : Nat} {e : KE} (hj : st.L[j]? = some e) :
    Ok Tryd.prog 57 [.ptr x 0, i (j : Int)] h fun v h' => v = .tuple [] ∧ ∃ LV2 GV2, Sep F g h' (RTs x LV2 GV2 (forgetS st e.1) ++ Zs) := by
  refine ok57 fun wf _ => ?_
  obtain ⟨hlk, hdk⟩ := look_at w.keys hj
  have hjl := (List.getElem?_eq_some_iff.1 hj).1
  have hL := w.len
  have hr := w.room
  have hs := w.sum
  have x0 := Sp.cell (a := x) (vs := [i st.room, LV', i st.last, GV]) 0 rfl
  have R0 := Sp.row (E := keptE) (V := LV') (l := st.L) 1 rfl
  have ix := R0.ix (k := .i64) (i := j) hjl
  obtain ⟨a, off, e1, ef, _⟩ := R0.fla hj
  have e4 : keptE.e = 4 := rfl
  rw [e4] at ix e1
  rw [e1] at ix
  have ef3 := ef 3 (i e.2.2) rfl
  have lw : (st.waits.map (·.1)).length = st.waits.length := List.length_map _
  obtain ⟨G2, h2, ea, S2, c2, _⟩ := Sp.push (E := intE) (V := GV) (l := st.waits.map (·.1)) 2 rfl (bytes := 8) e.2.2 (cs := [i e.2.2]) rfl (by rw [lw]; omega)
  have ea : appendL 1 8 GV _ _ = _ := ea
  have bs := bs38_1 h e.2.2
  have ap := ap38 (V := GV) (U := .slice h.next 0 1 (.ex 1)) rfl (h.alloc (.cells [i e.2.2] .ex))
  rw [ea] at ap
  have x0a : (h.alloc (.cells [i e.2.2] .ex)).get x = some (.cells [i st.room, LV', i st.last, GV] .ex) := (get_alloc_ne _ _ (Nat.ne_of_lt (Sp.lt (T := Thing.cells x [i st.room, LV', i st.last, GV]) 0 rfl (a := x) rfl))).trans x0
  have x2 := S2.cell (a := x) (vs := [i st.room, LV', i st.last, GV]) 0 rfl
  have S3 := S2.store 0 rfl [i st.room, LV', i st.last, G2]
  have est : storeV 1 (.ptr x 3) G2 h2 = some (h2.set x (.cells [i st.room, LV', i st.last, G2] .ex)) := by rw [store_o _ _ _ c2, x2]; rfl
  generalize h2.set x (.cells [i st.room, LV', i st.last, G2] .ex) = h3 at *
  have S3 : Sep F g h3 (RTg x st.room LV' st.L st.last G2 (st.waits.map (·.1) ++ [e.2.2]) ++ Zs) := S3
  have x3 := S3.cell (a := x) (vs := [i st.room, LV', i st.last, G2]) 0 rfl
  have R3 := S3.row (E := keptE) (V := LV') (l := st.L) 1 rfl
  have G3 := S3.grow (E := keptE) (V := LV') (l := st.L) 1 rfl
  have ltL : ∀ b, LV'.obj = some b → b < h3.next := fun b hb => S3.lt (T := Thing.vec keptE LV' st.L) 1 rfl (a := b) hb
  obtain ⟨U1, ec1, RU1, ob1⟩ := cut37_hi R3 G3.capd (j := j) (by omega)
  obtain ⟨U2, ec2, RU2, ob2⟩ := cut37_lo R3 G3.capd (j := j + 1) (by omega)
  have lt1 : (st.L.take j).length = j := by rw [List.length_take]; omega
  obtain ⟨N1, h4, eb, S4, cN, f4, lo4⟩ := S3.clone' RU1 (fun b hb => ltL b (ob1 b hb)) (bytes := 40) (by rw [lt1]; omega)
  have eb : appendL 4 40 _ U1 _ = _ := eb
  have ap1 := ap37 (V := .slice h3.next 0 0 (.ex 0)) (U := U1) RU1.not_str (h3.alloc (.cells [] .ex))
  rw [eb] at ap1
  have RU2' : Row h4 U2 keptE (st.L.drop (j + 1)) := RU2.fr fun b hb => f4.eq b (ltL b (ob2 b hb)) id
  obtain ⟨V6, h6, ec, S6, c6, _, _, _⟩ := S4.app (E := keptE) (V := N1) (l := st.L.take j) _ last_at (bytes := 40) RU2' (by rw [lt1, List.length_drop]; omega)
  have ec : appendL 4 40 N1 U2 h4 = _ := ec
  have ap2 := ap37 (V := N1) (U := U2) RU2'.not_str h4
  rw [ec] at ap2
  rw [set_last] at S6
  have S7 := S6.move (i := 1) (T := Thing.vec keptE LV' st.L) rfl
  have b0 := bs37_0 h3
  have x3a : (h3.alloc (.cells [] .ex)).get x = some (.cells [i st.room, LV', i st.last, G2] .ex) := (get_alloc_ne _ _ (Nat.ne_of_lt (S3.lt (T := Thing.cells x [i st.room, LV', i st.last, G2]) 0 rfl (a := x) rfl))).trans x3
  have x4 := S4.cell (a := x) (vs := [i st.room, LV', i st.last, G2]) 0 rfl
  have x7 := S7.cell (a := x) (vs := [i st.room, LV', i st.last, G2]) 0 rfl
  have S8 := S7.store 0 rfl [i st.room, V6, i st.last, G2]
  have est2 : storeV 1 (.ptr x 1) V6 h6 = some (h6.set x (.cells [i st.room, V6, i st.last, G2] .ex)) := by rw [store_o _ _ _ c6, x7]; rfl
  have ej : ((j + 1 : Nat) : Int) = (j : Int) + 1 := by omega
  rw [ej] at ec2
  simp only [i] at ef3 bs ap x0a
  simp (disch := omega) only [F57, i, sh, sh2, shc, shi, dec, x0, ix, ef3, bs, x0a, ap, est, x3, ec1, ec2, b0, x3a, ap1, x4, ap2, est2]
  have e0 : forgetS st e.1 = { st with L := dropK st.L e.1, waits := st.waits ++ [(e.2.2, st.ep)] } := by unfold forgetS; rw [hlk]
  rw [e0]
  refine ⟨V6, G2, ?_⟩
  show Sep F g _ (RTg x st.room V6 (dropK st.L e.1) st.last G2 ((st.waits ++ [(e.2.2, st.ep)]).map (·.1)) ++ Zs)
  rw [hdk, List.map_append]
  exact S8
end
end Go.Proofs.YthinkofjbabfbaaDoor
