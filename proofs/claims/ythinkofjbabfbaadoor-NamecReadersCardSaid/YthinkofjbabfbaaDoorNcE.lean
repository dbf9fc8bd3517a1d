/-
  namec: a cache over its domain, as things; Waiting, Defer, Look, Forget.
-/
import Derived.Test.YthinkofjbabfbaaDoorNcD
set_option linter.all false
namespace Go.Proofs.YthinkofjbabfbaaDoor
open Go.ChangeShapes Go.WideShapes Go.ChangeAt Go.RowKit Go.Lm
set_option linter.unusedSimpArgs false
set_option linter.unusedVariables false
set_option maxRecDepth 10000
abbrev KE := NKey × Int × Int
structure NSt where
  room : Int
  L : List KE
  last : Int
  nest : List Int
  passed : List Bool
  ep : Int
  waits : List (Int × Int)
def waitE : Enc (Int × Int) := ⟨fun c => [i c.1, i c.2], 2, fun _ => rfl, fun c v h => by
  simp only [List.mem_cons, List.not_mem_nil, or_false] at h
  rcases h with rfl | rfl <;> rfl, by decide⟩
theorem ty107 : Tryd.prog.underlying 107 = some (.slice 120) := by kernel_rfl
theorem ty30 : Tryd.prog.underlying 30 = some (.pointer 109) := by kernel_rfl
theorem ty33 : Tryd.prog.underlying 33 = some (.pointer 112) := by kernel_rfl
theorem bs107_1 (h : LHeap) (a b : Int) : buildSliceL Tryd.prog 107 1 [(0, .agg [.int .i64 a, .int .i64 b])] h = some (.slice h.next 0 1 (.ex 1), h.alloc (.cells [.int .i64 a, .int .i64 b] .ex)) := nr (by kernel_rfl)
theorem ap107 {V U : LV} (hU : U.isStr = false) (g : LHeap) : builtinL Tryd.prog .append [107, 107] [V, U] g = appendL 2 16 V U g := append_ok (by kernel_rfl) hU g
theorem bl120 (a b : Int) : buildL Tryd.prog 120 [(0, .int .i64 a), (1, .int .i64 b)] = some (.agg [.int .i64 a, .int .i64 b]) := nr (by kernel_rfl)
theorem bs38_1 (h : LHeap) (x : Int) : buildSliceL Tryd.prog 38 1 [(0, .int .i64 x)] h = some (.slice h.next 0 1 (.ex 1), h.alloc (.cells [.int .i64 x] .ex)) := nr (by kernel_rfl)
theorem ap38 {V U : LV} (hU : U.isStr = false) (g : LHeap) : builtinL Tryd.prog .append [38, 38] [V, U] g = appendL 1 8 V U g := append_ok (by kernel_rfl) hU g
theorem zr114 : zeroL Tryd.prog 114 = some (.agg [.int .i64 0, .int .i64 0]) := by kernel_rfl
/-- A cache's and its domain's things. -/
def CTg (c d : Nat) (room : Int) (m : Nat) (mp : NKey → Option LV) (n : Nat) (OV : LV) (order : List NKey) (last : Int) (NV PV : LV) (nest : List Int) (passed : List Bool) (ep : Int) (WV : LV) (waits : List (Int × Int)) : List Thing :=
  [Thing.cells c [.ptr d 0, i room, .map m, OV, i last], Thing.map m nameK.k mp n, Thing.vec nameE OV order, Thing.cells d [NV, PV, i ep, WV], Thing.vec intE NV nest, Thing.vec boolE PV passed, Thing.vec waitE WV waits]
def look (L : List KE) (k : NKey) : Option KE := L.find? fun e => decide (e.1 = k)
def mpS (L : List KE) (k : NKey) : Option LV := (look L k).map fun e => .agg [.int .i64 e.2.1, .int .i64 e.2.2]
abbrev keysS (L : List KE) : List NKey := L.map (·.1)
structure NWf (st : NSt) : Prop where
  nest : 1 ≤ st.nest.length ∧ st.nest.length ≤ 8
  passed : st.passed.length = st.nest.length
  room : 1 ≤ st.room ∧ st.room ≤ 4096
  len : (st.L.length : Int) ≤ st.room
  keys : (keysS st.L).Nodup
  ids : (st.L.map (fun e => e.2.2) ++ st.waits.map (·.1)).Nodup
  up : ∀ x ∈ st.L.map (fun e => e.2.2) ++ st.waits.map (·.1), 1 ≤ x ∧ x ≤ st.last
  sum : (st.L.length + st.waits.length : Int) ≤ st.last
theorem look_mem_k {L : List KE} {k : NKey} {e : KE} (h : look L k = some e) : e ∈ L ∧ e.1 = k := by
  unfold look at h
  exact ⟨List.mem_of_find?_eq_some h, by simpa using List.find?_some h⟩
theorem look_none_k {L : List KE} {k : NKey} : look L k = none ↔ ∀ e ∈ L, e.1 ≠ k := by
  unfold look
  rw [List.find?_eq_none]
  simp
section
variable {F : Nat → Prop} {g h : LHeap} {c d m n : Nat} {room last ep : Int} {mp : NKey → Option LV} {OV NV PV WV : LV} {order : List NKey} {nest : List Int} {passed : List Bool} {waits : List (Int × Int)} {Zs : List Thing}
theorem made61_ok {vs : List LV} (x : h.get d = some (.cells (NV :: vs) .ex)) (R : Row h NV intE nest) (hn : 1 ≤ nest.length) (hm : nest.length ≤ 8) : Ok Tryd.prog 61 [.ptr d 0] h fun v h' => v = .bool true ∧ h' = h := by
  refine ok61 fun _ _ => ?_
  have hl := fun g' => R.len (P := Tryd.prog) ty38 (g' := g')
  have n1 := nil_p (P := Tryd.prog) ty30 true
  simp (disch := omega) only [F61, i, sh, sh2, shc, shi, dec, n1, x, b_len, hl]
theorem made55_ok {vs : List LV} (x : h.get c = some (.cells (.ptr d 0 :: vs) .ex)) : Ok Tryd.prog 55 [.ptr c 0] h fun v h' => v = .bool true ∧ h' = h := by
  refine ok55 fun _ _ => ?_
  have n1 := nil_p (P := Tryd.prog) ty30 true
  have n2 := nil_p (P := Tryd.prog) ty33 true
  simp (disch := omega) only [F55, i, sh, sh2, shc, shi, dec, n1, n2, x]
set_option maxHeartbeats 1000000 in
/-- What waits. -/
theorem waiting_ok (x : h.get d = some (.cells [NV, PV, i ep, WV] .ex)) (RN : Row h NV intE nest) (hn : 1 ≤ nest.length) (hm : nest.length ≤ 8) (RW : Row h WV waitE waits) (hw : waits.length < 2 ^ 43) :
    Ok Tryd.prog 25 [.ptr d 0] h fun v h' => Sep noF h h' [Thing.vec intE v (waits.map (·.1))] := by
  refine ok25 fun wf _ => ?_
  have hd := wf.lt _ _ x
  simp only [F25, J25_0]
  refine (made61_ok x RN hn hm).mono ?_
  rintro _ h ⟨rfl, rfl⟩
  have hl := fun g' => RW.len (P := Tryd.prog) ty107 (g' := g')
  simp (disch := omega) only [J25_1, J25_2, J25_4, i, sh, sh2, shc, x, b_len, hl]
  refine loop_n (fun n (st : LV × LV) h' => ∃ (k : Nat) (W : LV), st = (W, i (k : Int)) ∧ k + n = waits.length ∧ Sep noF h h' [Thing.vec intE W ((waits.take k).map (·.1))]) (n := waits.length) ⟨0, .nils, rfl, by omega, by simpa using (Sep.start noF h).nils intE⟩ ?_
  rintro n st h' ⟨k, W, rfl, hk, Sp⟩
  cases n with
  | zero =>
    obtain rfl : k = waits.length := by omega
    rw [List.take_length] at Sp
    simp (disch := omega) only [L25_5, J25_3, i, sh, sh2, shi, dec]
    exact Sp
  | succ n =>
    obtain ⟨y, hy, _⟩ := drop_at (l := waits) (k := k) (by omega)
    have Rh := RW.old wf Sp.fr
    have ix := Rh.ix (k := .i64) (i := k) (by omega)
    have ld := Rh.ld hy
    have e2 : waitE.e = 2 := rfl
    rw [e2] at ix ld
    obtain ⟨N, w1, w2⟩ := new_st waitE [.int .i64 0, .int .i64 0] rfl rfl h' y
    rw [e2] at w2
    have f0 : (waitE.f y)[0]? = some (.int .i64 y.1) := rfl
    have c0 : cellO none 0 (some (.cells (waitE.f y) .ex)) = some (.int .i64 y.1) := rfl
    have xc : (h'.alloc (.cells (waitE.f y) .ex)).get h'.next = some (.cells (waitE.f y) .ex) := get_alloc_eq _ _
    have S3 := Sp.temp (.cells (waitE.f y) .ex)
    have hml : ((waits.take k).map (·.1)).length = k := by rw [List.length_map, List.length_take]; omega
    obtain ⟨V', h4, e, S4, c4, _⟩ := S3.push (E := intE) (V := W) 0 rfl (bytes := 8) y.1 (cs := [i y.1]) rfl (by rw [hml]; omega)
    have e : appendL 1 8 W _ _ = _ := e
    have bs := bs38_1 (h'.alloc (.cells (waitE.f y) .ex)) y.1
    have ap := ap38 (V := W) (U := .slice (h'.alloc (.cells (waitE.f y) .ex)).next 0 1 (.ex 1)) rfl ((h'.alloc (.cells (waitE.f y) .ex)).alloc (.cells [i y.1] .ex))
    rw [e] at ap
    simp only [i] at ap
    simp (disch := omega) only [L25_5, i, sh, sh2, shi, dec, ix, ld, w1, w2, xc, c0, f0, bs, ap]
    exact ⟨n, by omega, k + 1, V', by simp, by omega, by rw [take_snoc hy, List.map_append]; exact S4⟩
set_option maxHeartbeats 1000000 in
/-- Something waits. -/
theorem defer_ok (Sp : Sep F g h (CTg c d room m mp n OV order last NV PV nest passed ep WV waits ++ Zs)) (hn : 1 ≤ nest.length) (hm : nest.length ≤ 8) (hw : waits.length < 2 ^ 42) (id : Int) (hid : id ∉ waits.map (·.1)) :
    Ok Tryd.prog 58 [.ptr d 0, i id] h fun v h' => v = i 0 ∧ ∃ WV', Sep F g h' (CTg c d room m mp n OV order last NV PV nest passed ep WV' (waits ++ [(id, ep)]) ++ Zs) := by
  refine ok58 fun wf _ => ?_
  have x := Sp.cell (a := d) (vs := [NV, PV, i ep, WV]) 3 rfl
  have RN := Sp.row (E := intE) (V := NV) (l := nest) 4 rfl
  have RW := Sp.row (E := waitE) (V := WV) (l := waits) 6 rfl
  simp only [F58]
  refine (made61_ok x RN hn hm).mono ?_
  rintro _ h ⟨rfl, rfl⟩
  simp (disch := omega) only [i, sh, sh2]
  refine (waiting_ok x RN hn hm RW (by omega)).mono ?_
  intro U h1 SU
  have S1 := Sp.pure SU.fr
  have x1 := S1.cell (a := d) (vs := [NV, PV, i ep, WV]) 3 rfl
  refine (contains95_ok (SU.row (E := intE) (V := U) (l := waits.map (·.1)) 0 rfl) (by rw [List.length_map]; omega) id).mono ?_
  rintro _ h1 ⟨rfl, rfl⟩
  rw [decide_eq_false hid]
  have RW1 := S1.row (E := waitE) (V := WV) (l := waits) 6 rfl
  obtain ⟨V', h2, e, S2, c2, _⟩ := S1.push (E := waitE) (V := WV) (l := waits) 6 rfl (bytes := 16) (id, ep) (cs := waitE.f (id, ep)) rfl (by omega)
  have e : appendL 2 16 WV _ _ = _ := e
  have bs := bs107_1 h1 id ep
  have bl := bl120 id ep
  have ap := ap107 (V := WV) (U := .slice h1.next 0 1 (.ex 1)) rfl (h1.alloc (.cells (waitE.f (id, ep)) .ex))
  rw [e] at ap
  have ap : builtinL Tryd.prog .append [107, 107] [WV, .slice h1.next 0 1 (.ex 1)] (h1.alloc (.cells [.int .i64 id, .int .i64 ep] .ex)) = some (V', h2) := ap
  have xa : (h1.alloc (.cells [.int .i64 id, .int .i64 ep] .ex)).get d = some (.cells [NV, PV, i ep, WV] .ex) := (get_alloc_ne _ _ (Nat.ne_of_lt (S1.lt (T := Thing.cells d [NV, PV, i ep, WV]) 3 rfl (a := d) rfl))).trans x1
  have x2 := S2.cell (a := d) (vs := [NV, PV, i ep, WV]) 3 rfl
  have S3 := S2.store 3 rfl [NV, PV, i ep, V']
  have est : storeV 1 (.ptr d 3) V' h2 = some (h2.set d (.cells [NV, PV, i ep, V'] .ex)) := by rw [store_o _ _ _ c2, x2]; rfl
  simp (disch := omega) only [i, sh, sh2, shi, shc, dec, x1, bl, bs, xa, ap, est]
  exact ⟨V', S3⟩
theorem name_cell (k : NKey) : cellO (some 2) 0 (some (.cells (nameE.f k) .ex)) = some (.agg (nameE.f k)) := by
  rw [cells_o _ _ _ _ (by rw [nameE.len]; decide), List.drop_zero, List.take_of_length_le (by rw [nameE.len]; decide)]
def kv2 (L : List KE) (k : NKey) : Int × Int := ((look L k).map fun e => (e.2.1, e.2.2)).getD (0, 0)
theorem lk110 {L : List KE} (M : MapIs h m nameK.k (mpS L) n) (k : NKey) : lookupL Tryd.prog 110 (.map m) (.agg (nameE.f k)) true h = some (.tuple [.agg (waitE.f (kv2 L k)), .bool (look L k).isSome]) ∧ lookupL Tryd.prog 110 (.map m) (.agg (nameE.f k)) false h = some (.agg (waitE.f (kv2 L k))) := by
  have a := M.lookup (P := Tryd.prog) nameK ty110 zr114 k true
  have b := M.lookup (P := Tryd.prog) nameK ty110 zr114 k false
  have a : lookupL Tryd.prog 110 (.map m) (.agg (nameE.f k)) true h = _ := a
  have b : lookupL Tryd.prog 110 (.map m) (.agg (nameE.f k)) false h = _ := b
  rw [a, b]
  cases hl : look L k with
  | none =>
    have e : mpS L k = none := by unfold mpS; rw [hl]; rfl
    have e2 : kv2 L k = (0, 0) := by unfold kv2; rw [hl]; rfl
    rw [e, e2]
    exact ⟨rfl, rfl⟩
  | some x =>
    have e : mpS L k = some (.agg [.int .i64 x.2.1, .int .i64 x.2.2]) := by unfold mpS; rw [hl]; rfl
    have e2 : kv2 L k = (x.2.1, x.2.2) := by unfold kv2; rw [hl]; rfl
    rw [e, e2]
    exact ⟨rfl, rfl⟩
/-- Look. -/
theorem look_ok {L : List KE} (Sp : Sep F g h (CTg c d room m (mpS L) n OV order last NV PV nest passed ep WV waits ++ Zs)) (k : NKey) :
    Ok Tryd.prog 17 [.ptr c 0, .agg (nameE.f k)] h fun v h' => v = .tuple [i (kv2 L k).1, .bool (look L k).isSome] ∧ Fr noF h h' := by
  refine ok17 fun wf _ => ?_
  have hn : newL (.agg (nameE.f k)) h = some (.ptr h.next 0, h.alloc (.cells (nameE.f k) .ex)) := new_agg _ _ (nameE.cell k)
  have S1 := Sp.new (nameE.f k)
  have f1 : Fr noF h (h.alloc (.cells (nameE.f k) .ex)) := Fr.alloc _ _
  have hnx : h.next < (h.alloc (.cells (nameE.f k) .ex)).next := Nat.lt_succ_self _
  generalize ht : h.next = t3 at *
  generalize hh : h.alloc (.cells (nameE.f k) .ex) = h1 at *
  have x1 := S1.cell (a := c) (vs := [.ptr d 0, i room, .map m, OV, i last]) 0 rfl
  have xk : h1.get t3 = some (.cells (nameE.f k) .ex) := S1.cell _ last_at
  have M1 := S1.at (T := Thing.map m nameK.k (mpS L) n) 1 rfl
  have lk := (lk110 M1 k).1
  obtain ⟨N, w1, w2⟩ := new_st waitE [.int .i64 0, .int .i64 0] rfl rfl h1 (kv2 L k)
  have e2 : waitE.e = 2 := rfl
  rw [e2] at w2
  have w0 : newL (.agg [.int .i64 0, .int .i64 0]) h1 = some (.ptr h1.next 0, h1.alloc (.cells [.int .i64 0, .int .i64 0] .ex)) := new_agg _ _ (by simp [LV.cell])
  rw [w0] at w1
  obtain rfl : h1.alloc (.cells [.int .i64 0, .int .i64 0] .ex) = N := (Prod.mk.inj (Option.some.inj w1)).2
  have S2 := S1.temp (.cells [.int .i64 0, .int .i64 0] .ex)
  have x2 := S2.cell (a := c) (vs := [.ptr d 0, i room, .map m, OV, i last]) 0 rfl
  have xk2 : (h1.alloc (.cells [.int .i64 0, .int .i64 0] .ex)).get t3 = some (.cells (nameE.f k) .ex) := S2.cell _ last_at
  have lk2 := (lk110 (S2.at (T := Thing.map m nameK.k (mpS L) n) 1 rfl) k).1
  have x3 : (h1.alloc (.cells (waitE.f (kv2 L k)) .ex)).get h1.next = some (.cells (waitE.f (kv2 L k)) .ex) := get_alloc_eq _ _
  simp (disch := omega) only [F17, i, sh, sh2, hn]
  refine (made55_ok x1).mono ?_
  rintro _ h1 ⟨rfl, rfl⟩
  have f0 : (waitE.f (kv2 L k))[0]? = some (.int .i64 (kv2 L k).1) := rfl
  have ex : ∀ a b, extractL (.tuple [a, b]) 0 = some a ∧ extractL (.tuple [a, b]) 1 = some b := fun _ _ => ⟨rfl, rfl⟩
  simp (disch := omega) only [i, sh, sh2, shc, x1, xk, name_cell, lk, w0, ex, x2, xk2, lk2, w2, x3, f0]
  exact f1.trans (Fr.alloc _ _)
end
end Go.Proofs.YthinkofjbabfbaaDoor
