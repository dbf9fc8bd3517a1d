/-
  parapetlaw19.NamecKeeps: its loop.
-/
import Derived.Test.YthinkofjbabfbaaDoorNcJ
set_option linter.all false
namespace Go.Proofs.YthinkofjbabfbaaDoor
open Go.ChangeShapes Go.WideShapes Go.ChangeAt Go.RowKit Go.Lm
set_option linter.unusedSimpArgs false
set_option linter.unusedVariables false
set_option maxRecDepth 10000
structure OpN where
  kind : Int
  key : NKey
  ino : Int
def opE : Enc OpN := ⟨fun o => [i o.kind, i o.key.1, .str o.key.2, i o.ino], 4, fun _ => rfl, fun c v h => by
  simp only [List.mem_cons, List.not_mem_nil, or_false] at h
  rcases h with rfl | rfl | rfl | rfl <;> rfl, by decide⟩
theorem ty29 : Tryd.prog.underlying 29 = some (.slice 44) := by kernel_rfl
theorem op_c (o : OpN) : cellO none 0 (some (.cells (opE.f o) .ex)) = some (.int .i64 o.kind) ∧ cellO (some 2) 1 (some (.cells (opE.f o) .ex)) = some (.agg (nameE.f o.key)) ∧ cellO none 1 (some (.cells (opE.f o) .ex)) = some (.int .i64 o.key.1) ∧ cellO none 3 (some (.cells (opE.f o) .ex)) = some (.int .i64 o.ino) := ⟨rfl, rfl, rfl, rfl⟩
theorem neq3 (a : Int) : binL Tryd.prog .neq 3 false (.int .i64 a) (.int .i64 a) = some (.bool false) := by
  have : binL Tryd.prog .neq 3 false (.int .i64 a) (.int .i64 a) = some (.bool !(a == a)) := nr (by kernel_rfl)
  rw [this]; simp
theorem neq23 (a : Int) : binL Tryd.prog .neq 23 false (.int .i64 a) (.int .i64 a) = some (.bool false) := by
  have : binL Tryd.prog .neq 23 false (.int .i64 a) (.int .i64 a) = some (.bool !(a == a)) := nr (by kernel_rfl)
  rw [this]; simp
theorem neq4 (a : Bool) : binL Tryd.prog .neq 4 false (.bool a) (.bool a) = some (.bool false) := by cases a <;> kernel_rfl
section
variable {g h : LHeap} {c d x : Nat} {st : NSt}
def KI (g h : LHeap) (c d x : Nat) (st : NSt) : Prop := ∃ m n OV NV PV WV LV' GV, Sep noF g h (CTs c d m n OV NV PV WV st ++ RTs x LV' GV st)
theorem KI.pure (I : KI g h c d x st) {h' : LHeap} (f : Fr noF h h') : KI g h' c d x st := by
  obtain ⟨m, n, OV, NV, PV, WV, LV', GV, Sp⟩ := I
  exact ⟨m, n, OV, NV, PV, WV, LV', GV, Sp.pure f⟩
theorem KI.of {m n : Nat} {OV NV PV WV LV' GV : LV} (Sp : Sep noF g h (RTs x LV' GV st ++ CTs c d m n OV NV PV WV st)) : KI g h c d x st := ⟨m, n, OV, NV, PV, WV, LV', GV, Sp.perm List.perm_append_comm⟩
set_option maxHeartbeats 4000000 in
theorem keeps_any {V : LV} {ops : List OpN} (room : Int) (R : Row g V opE ops) (hl : ops.length < 2 ^ 42) : Ok Tryd.prog 4 [i room, V] g fun v _ => v = .bool true := by
  refine ok4 fun wf _ => ?_
  have hlen := fun g' => R.len (P := Tryd.prog) ty29 (g' := g')
  have n30 := nil_p (P := Tryd.prog) ty30 true
  have n33 := nil_p (P := Tryd.prog) ty33 true
  simp only [F4, J4_0]
  have dn := dnew_ok (g := g) (n := 1) (by decide) (by decide)
  have c1 : ((1 : Nat) : Int) = 1 := rfl
  rw [c1] at dn
  simp only [i] at dn
  refine dn.mono ?_
  rintro _ h1 ⟨d, NV, PV, rfl, S1⟩
  simp (disch := omega) only [i, sh, sh2, ext2, J4_1]
  have S1 : Sep noF g h1 (DTg d NV PV .nils (List.replicate 1 0) (List.replicate 1 true) 0 [] ++ []) := by rw [List.append_nil]; exact S1
  have cn := cnew_ok (n := 0) room S1
  simp only [i] at cn
  refine cn.mono ?_
  rintro v h2 (⟨hr, rfl, rfl⟩ | ⟨hr, c, m, OV, rfl, S2⟩)
  · simp (disch := omega) only [i, sh, sh2, ext2, J4_2]
    refine lives_pure.to ?_
    by_cases h1 : room < 1
    · simp (disch := omega) only [i, sh, sh2, shi, dec, n30, n33, J4_3]
    · have h2 : 4096 < room := by omega
      simp (disch := omega) only [i, sh, sh2, shi, dec, n30, n33, J4_3]
  simp (disch := omega) only [i, sh, sh2, ext2, J4_2]
  refine lives_pure.to ?_
  rw [List.append_nil] at S2
  have bl := bl40 room
  have hn : newL (.agg [.int .i64 room, .nils, .int .i64 0, .nils]) h2 = some (.ptr h2.next 0, h2.alloc (.cells [.int .i64 room, .nils, .int .i64 0, .nils] .ex)) := new_agg _ _ (by simp [LV.cell])
  simp (disch := omega) only [i, sh, sh2, shi, dec, n30, n33, J4_3, J4_4, J4_5, bl, hn, J4_6, J4_13]
  have S3 := ((S2.new [i room, .nils, i 0, .nils]).nils keptE).nils intE
  generalize h2.next = x at *
  have I0 : KI g (h2.alloc (.cells [.int .i64 room, .nils, .int .i64 0, .nils] .ex)) c d x (newSt room 1) := by
    refine ⟨m, 0, OV, NV, PV, .nils, .nils, .nils, ?_⟩
    rw [List.append_assoc, List.append_assoc] at S3
    exact S3
  refine loop_n (fun n (s : LV) h => ∃ (j : Nat) (st : NSt), s = i (j : Int) ∧ j + n = ops.length ∧ NWf st ∧ st.last ≤ j ∧ KI g h c d x st) (n := ops.length) ⟨0, newSt room 1, rfl, by omega, newSt_wf hr.1 hr.2 (by decide) (by decide), by simp [newSt], I0⟩ ?_
  rintro n s h3 ⟨j, st, rfl, hj, w, hlast, I⟩
  have hL := w.len
  have hrm := w.room
  have hsum := w.sum
  cases n with
  | zero =>
    simp (disch := omega) only [L4_14, i, sh, sh2, shi, dec, b_len, hlen, J4_7]
    obtain ⟨m, n, OV, NV, PV, WV, LV', GV, Sp⟩ := I
    refine (kept_ok Sp w).mono ?_
    rintro W h4 ⟨RW, _, f4⟩
    have S4 := Sp.pure f4
    have ll : (keysS st.L).length = st.L.length := List.length_map _
    have hlW := fun g' => RW.len (P := Tryd.prog) ty51 (g' := g')
    rw [ll] at hlW
    have S5 := S4.perm List.perm_append_comm
    have x4 := S5.cell (a := x) (vs := [i st.room, LV', i st.last, GV]) 0 rfl
    have RL := S5.row (E := keptE) (V := LV') (l := st.L) 1 rfl
    have hlL := fun g' => RL.len (P := Tryd.prog) ty37 (g' := g')
    simp (disch := omega) only [i, sh, sh2, shc, shi, dec, J4_8, b_len, hlW, x4, hlL, J4_9, J4_11]
    refine loop_n (fun n (s : LV) h => ∃ (k : Nat), s = i (k : Int) ∧ k + n = st.L.length ∧ h = h4) (n := st.L.length) ⟨0, rfl, by omega, rfl⟩ ?_
    rintro n s h4 ⟨k, rfl, hk, rfl⟩
    cases n with
    | zero => simp (disch := omega) only [L4_12, J4_10, i, sh, sh2, shc, shi, dec, b_len, hlW]
    | succ n =>
      obtain ⟨e, he, _⟩ := drop_at (l := st.L) (k := k) (by omega)
      have hek : (keysS st.L)[k]? = some e.1 := by unfold keysS; rw [List.getElem?_map, he]; rfl
      have ix1 := RW.ix (k := .i64) (i := k) (by rw [ll]; omega)
      have ld1 := RW.ld hek
      have e2 : nameE.e = 2 := rfl
      rw [e2] at ix1 ld1
      have ix := RL.ix (k := .i64) (i := k) (by omega)
      obtain ⟨a, off, e1, _, ef⟩ := RL.fla he
      have e4 : keptE.e = 4 := rfl
      rw [e4] at ix e1
      rw [e1] at ix
      have ef0 := ef 0 2 (by decide)
      have ef0 : cellO (some 2) off (h4.get a) = some (.agg (nameE.f e.1)) := ef0
      have eq := name_neD e.1 e.1
      rw [decide_eq_true rfl] at eq
      simp (disch := omega) only [L4_12, i, sh, sh2, shc, shi, dec, b_len, hlW, ix1, ld1, x4, ix, ef0, eq, Bool.not_true]
      exact ⟨n, by omega, k + 1, by simp, by omega⟩
  | succ n =>
    obtain ⟨o, ho, _⟩ := drop_at (l := ops) (k := j) (by omega)
    obtain ⟨m, nn, OV, NV, PV, WV, LV', GV, Sp⟩ := I
    have Rh := R.old wf Sp.fr
    have ix := Rh.ix (k := .i64) (i := j) (by omega)
    have ld := Rh.ld ho
    have e4 : opE.e = 4 := rfl
    rw [e4] at ix ld
    obtain ⟨N, w1, w2⟩ := new_st opE [.int .i64 0, .int .i64 0, .str [], .int .i64 0] rfl rfl h3 o
    rw [e4] at w2
    obtain ⟨o0, o1, o2, o3⟩ := op_c o
    have f0 : (opE.f o)[0]? = some (.int .i64 o.kind) := rfl
    have f1 : (opE.f o)[1]? = some (.int .i64 o.key.1) := rfl
    have f3 : (opE.f o)[3]? = some (.int .i64 o.ino) := rfl
    have xc : (h3.alloc (.cells (opE.f o) .ex)).get h3.next = some (.cells (opE.f o) .ex) := get_alloc_eq _ _
    have Sn := Sp.new (opE.f o)
    generalize hx11 : h3.next = x11 at *
    generalize hh4 : h3.alloc (.cells (opE.f o) .ex) = h4 at *
    rw [List.append_assoc] at Sn
    have Sc : Sep noF g h4 (CTs c d m nn OV NV PV WV st ++ (RTs x LV' GV st ++ [Thing.cells x11 (opE.f o)])) := Sn
    have next : ∀ {h' : LHeap} {st' : NSt} {m n' : Nat} {OV NV PV WV LV' GV : LV}, NWf st' → st'.last ≤ st.last + 1 → Sep noF g h' (RTs x LV' GV st' ++ (CTs c d m n' OV NV PV WV st' ++ [Thing.cells x11 (opE.f o)])) →
        ∃ m, m < n + 1 ∧ ∃ (j' : Nat) (st : NSt), i ((j : Int) + 1) = i (j' : Int) ∧ j' + m = ops.length ∧ NWf st ∧ st.last ≤ j' ∧ KI g h' c d x st := by
      intro h' st' m n' OV NV PV WV LV' GV w' hl' S'
      rw [← List.append_assoc] at S'
      exact ⟨n, by omega, j + 1, st', by simp, by omega, w', by omega, KI.of S'.init⟩
    have swap : ∀ {h' : LHeap} {st1 st2 : NSt} {m n' : Nat} {OV NV PV WV LV' GV : LV}, Sep noF g h' (CTs c d m n' OV NV PV WV st1 ++ (RTs x LV' GV st2 ++ [Thing.cells x11 (opE.f o)])) →
        Sep noF g h' (RTs x LV' GV st2 ++ (CTs c d m n' OV NV PV WV st1 ++ [Thing.cells x11 (opE.f o)])) := by
      intro h' st1 st2 m n' OV NV PV WV LV' GV S'
      rw [← List.append_assoc] at S' ⊢
      exact S'.perm (List.Perm.append_right _ List.perm_append_comm)
    simp only [i] at next
    have opx : ∀ {h' : LHeap} {st1 st2 : NSt} {m n' : Nat} {OV NV PV WV LV' GV : LV}, Sep noF g h' (RTs x LV' GV st2 ++ (CTs c d m n' OV NV PV WV st1 ++ [Thing.cells x11 (opE.f o)])) → h'.get x11 = some (.cells (opE.f o) .ex) := by
      intro h' st1 st2 m n' OV NV PV WV LV' GV S'
      exact S'.cell (3 + 7) rfl
    simp (disch := omega) only [L4_14, J4_15, J4_17, J4_18, i, sh, sh2, shi, dec, b_len, hlen, ix, ld, w1, w2, xc, o0, f0]
    by_cases k1 : o.kind = 1
    · simp (disch := omega) only [J4_19, i, sh, sh2, shi, dec, k1, xc, o1]
      refine (look_ok Sc o.key).mono ?_
      rintro _ h5 ⟨rfl, f5⟩
      have S5 := swap (Sc.pure f5)
      have x5 := opx S5
      simp (disch := omega) only [i, sh, sh2, ext2, x5, o1]
      refine (rlook_ok S5 w o.key).mono ?_
      rintro _ h6 ⟨rfl, f6⟩
      have S6 := S5.pure f6
      have e3 := neq3 (kv2 st.L o.key).1
      have e4 := neq4 (look st.L o.key).isSome
      simp (disch := omega) only [i, sh, sh2, shi, dec, ext2, e3, e4, J4_16]
      exact next w (by omega) S6
    by_cases k2 : o.kind = 2
    · simp (disch := omega) only [J4_19, J4_20, i, sh, sh2, shi, dec, k2, xc, o1, o3, f3]
      have pk := put_ok Sc w (by omega) o.key o.ino
      simp only [i] at pk
      refine ⟨pk.mono ?_, trivial⟩
      rintro _ h5 ⟨rfl, n5, OV5, WV5, S5⟩
      have S5 := swap S5
      have x5 := opx S5
      simp (disch := omega) only [i, sh, sh2, x5, o1, o3, f3]
      have rk := rput_ok S5 w (by omega) o.key o.ino
      simp only [i] at rk
      refine ⟨trivial, trivial, rk.mono ?_, trivial⟩
      rintro _ h6 ⟨rfl, LV6, GV6, S6⟩
      have e3 := neq23 (if o.ino < 0 then 1 else 0)
      simp (disch := omega) only [i, sh, sh2, shi, dec, e3, J4_16]
      refine next ?_ ?_ S6
      · split
        · exact w
        · exact w.put o.key o.ino
      · split
        · omega
        · exact Int.le_refl _
    by_cases k3 : o.kind = 3
    · simp (disch := omega) only [J4_19, J4_20, J4_21, i, sh, sh2, shi, dec, k3, xc, o1]
      refine ⟨(forget_ok Sc w (by omega) o.key).mono ?_, trivial⟩
      rintro _ h5 ⟨rfl, n5, OV5, WV5, S5⟩
      have S5 := swap S5
      have x5 := opx S5
      simp (disch := omega) only [i, sh, sh2, x5, o1]
      refine ⟨trivial, (rforget_ok S5 w (by omega) o.key).mono ?_, trivial⟩
      rintro _ h6 ⟨rfl, LV6, GV6, S6⟩
      have e4 := neq4 (look st.L o.key).isSome
      simp (disch := omega) only [i, sh, sh2, shi, dec, e4, J4_16]
      exact next (w.forget o.key) (by rw [(forget_last st o.key).1]; omega) S6
    by_cases k4 : o.kind = 4
    · simp (disch := omega) only [J4_19, J4_20, J4_21, J4_22, i, sh, sh2, shi, dec, k4, xc, o2, f1]
      have fk := forgetDir_ok Sc w (by omega) o.key.1
      simp only [i] at fk
      refine ⟨fk.mono ?_, trivial⟩
      rintro _ h5 ⟨rfl, n5, OV5, WV5, S5⟩
      have S5 := swap S5
      have x5 := opx S5
      simp (disch := omega) only [i, sh, sh2, x5, o2, f1]
      have rk := rforgetDir_ok S5 w (by omega) o.key.1
      simp only [i] at rk
      refine ⟨trivial, rk.mono ?_, trivial⟩
      rintro _ h6 ⟨rfl, LV6, GV6, S6⟩
      have e3 := neq3 (fdL o.key.1 (keysS st.L) st 0).2
      simp (disch := omega) only [i, sh, sh2, shi, dec, e3, J4_16]
      have fw := fdL_wf o.key.1 (keysS st.L) st 0 w
      exact next fw.1 (by rw [fw.2.1]; omega) S6
    by_cases k5 : o.kind = 5
    · have xd := Sc.cell (a := d) (vs := [NV, PV, i st.ep, WV]) 3 rfl
      have RN := Sc.row (E := intE) (V := NV) (l := st.nest) 4 rfl
      have RW := Sc.row (E := waitE) (V := WV) (l := st.waits) 6 rfl
      simp (disch := omega) only [J4_19, J4_20, J4_21, J4_22, J4_23, i, sh, sh2, shi, dec, k5]
      refine (waiting_ok xd RN w.nest.1 w.nest.2 RW (by omega)).mono ?_
      intro U h5 SU
      have RU := SU.row (E := intE) (V := U) (l := st.waits.map (·.1)) 0 rfl
      have lw : (st.waits.map (·.1)).length = st.waits.length := List.length_map _
      have hlU := fun g' => RU.len (P := Tryd.prog) ty38 (g' := g')
      rw [lw] at hlU
      have S5 := swap (Sc.pure SU.fr)
      have x5 := S5.cell (a := x) (vs := [i st.room, LV', i st.last, GV]) 0 rfl
      have RG := S5.row (E := intE) (V := GV) (l := st.waits.map (·.1)) 2 rfl
      have hlG := fun g' => RG.len (P := Tryd.prog) ty38 (g' := g')
      rw [lw] at hlG
      simp (disch := omega) only [i, sh, sh2, shc, shi, dec, J4_24, b_len, hlU, x5, hlG, J4_25, J4_26]
      refine loop_n (fun n' (s : LV) h => ∃ (k : Nat), s = i (k : Int) ∧ k + n' = st.waits.length ∧ h = h5) (n := st.waits.length) ⟨0, rfl, by omega, rfl⟩ ?_
      rintro n' s h5 ⟨k, rfl, hk, rfl⟩
      cases n' with
      | zero =>
        simp (disch := omega) only [L4_27, J4_16, i, sh, sh2, shc, shi, dec, b_len, hlU]
        exact next w (by omega) S5
      | succ n' =>
        obtain ⟨y, hy, _⟩ := drop_at (l := st.waits.map (·.1)) (k := k) (by rw [lw]; omega)
        have ix1 := RU.ix (k := .i64) (i := k) (by rw [lw]; omega)
        have ld1 := RU.ld1 hy rfl rfl
        have ix2 := RG.ix (k := .i64) (i := k) (by rw [lw]; omega)
        have ld2 := RG.ld1 hy rfl rfl
        have e1 : intE.e = 1 := rfl
        rw [e1] at ix1 ix2
        have e3 := neq3 y
        simp (disch := omega) only [L4_27, i, sh, sh2, shc, shi, dec, b_len, hlU, ix1, ld1, x5, ix2, ld2, e3]
        exact ⟨n', by omega, k + 1, by simp, by omega⟩
    · simp (disch := omega) only [J4_19, J4_20, J4_21, J4_22, J4_23, J4_16, i, sh, sh2, shi, dec]
      exact next w (by omega) (swap Sc)
end
end Go.Proofs.YthinkofjbabfbaaDoor
