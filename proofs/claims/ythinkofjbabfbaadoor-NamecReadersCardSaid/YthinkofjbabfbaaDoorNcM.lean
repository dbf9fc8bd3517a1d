/-
  parapetlaw19.NamecReaders: its loops.
-/
import Derived.Test.YthinkofjbabfbaaDoorNcK
import Derived.Test.YthinkofjbabfbaaDoorNcL
set_option linter.all false
namespace Go.Proofs.YthinkofjbabfbaaDoor
open Go.ChangeShapes Go.WideShapes Go.ChangeAt Go.RowKit Go.Lm
set_option linter.unusedSimpArgs false
set_option linter.unusedVariables false
set_option maxRecDepth 10000
theorem NWf.dom {st : NSt} (w : NWf st) {p : List Bool} (hp : p.length = st.nest.length) (e : Int) : NWf { st with passed := p, ep := e } :=
  ⟨w.nest, hp, w.room, w.len, w.keys, w.ids, w.up, w.sum⟩
/-- The domain while hart 0 is inside. -/
structure RdI (st : NSt) : Prop where
  wf : NWf st
  nest : st.nest = [1, 0]
  ep : (st.ep = 0 ∧ st.passed = [true, true]) ∨ (st.ep = 1 ∧ ∃ b, st.passed = [false, b])
  old : ∀ y ∈ st.waits, 0 ≤ y.2 ∧ y.2 ≤ 1
theorem RdI.forget {st : NSt} (I : RdI st) (k : NKey) : RdI (forgetS st k) := by
  obtain ⟨f1, f2, f3, f4, f5⟩ := forget_last st k
  refine ⟨I.wf.forget k, f3.trans I.nest, by rw [f4, f5]; exact I.ep, ?_⟩
  unfold forgetS
  cases h : look st.L k with
  | none => exact I.old
  | some e =>
    intro y hy
    rcases List.mem_append.1 hy with hy | hy
    · exact I.old y hy
    · rw [List.mem_singleton] at hy; subst hy
      show 0 ≤ st.ep ∧ st.ep ≤ 1
      rcases I.ep with ⟨h, _⟩ | ⟨h, _⟩ <;> omega
theorem RdI.room {st : NSt} (I : RdI st) (k : NKey) : RdI (roomS st k) := by
  unfold roomS
  split
  · exact I.forget k
  · split
    · split
      · exact I
      · exact I.forget _
    · exact I
theorem RdI.put {st : NSt} (I : RdI st) (k : NKey) (x : Int) : RdI (putS st k x) :=
  ⟨I.wf.put k x, (I.room k).nest, (I.room k).ep, (I.room k).old⟩
def stepD (st : NSt) : NSt := { st with passed := (stepP (st.passed.set 1 true) st.ep).1, ep := (stepP (st.passed.set 1 true) st.ep).2 }
theorem RdI.step {st : NSt} (I : RdI st) : RdI (stepD st) := by
  have hl : (stepP (st.passed.set 1 true) st.ep).1.length = st.nest.length := by
    unfold stepP
    have := I.wf.passed
    split <;> simp [this]
  refine ⟨I.wf.dom hl _, I.nest, ?_, I.old⟩
  rcases I.ep with ⟨h1, h2⟩ | ⟨h1, b, h2⟩
  · refine .inr ⟨?_, false, ?_⟩
    · show (stepP (st.passed.set 1 true) st.ep).2 = 1
      rw [h1, h2]; rfl
    · show (stepP (st.passed.set 1 true) st.ep).1 = _
      rw [h1, h2]; rfl
  · refine .inr ⟨?_, true, ?_⟩
    · show (stepP (st.passed.set 1 true) st.ep).2 = 1
      rw [h1, h2]; rfl
    · show (stepP (st.passed.set 1 true) st.ep).1 = _
      rw [h1, h2]; rfl
section
variable {g h : LHeap} {c d : Nat} {st : NSt}
def RI (g h : LHeap) (c d : Nat) (st : NSt) : Prop := ∃ m n OV NV PV WV, Sep noF g h (CTs c d m n OV NV PV WV st)
/-- The domain first. -/
theorem ct_d {m n : Nat} {OV NV PV WV : LV} (Sp : Sep noF g h (CTs c d m n OV NV PV WV st)) : Sep noF g h (DTg d NV PV WV st.nest st.passed st.ep st.waits ++ [Thing.cells c [.ptr d 0, i st.room, .map m, OV, i st.last], Thing.map m nameK.k (mpS st.L) n, Thing.vec nameE OV (keysS st.L)]) := by
  have Sp : Sep noF g h ([Thing.cells c [.ptr d 0, i st.room, .map m, OV, i st.last], Thing.map m nameK.k (mpS st.L) n, Thing.vec nameE OV (keysS st.L)] ++ DTg d NV PV WV st.nest st.passed st.ep st.waits) := Sp
  exact Sp.perm List.perm_append_comm
theorem d_ct {m n : Nat} {OV NV PV WV : LV} (Sp : Sep noF g h (DTg d NV PV WV st.nest st.passed st.ep st.waits ++ [Thing.cells c [.ptr d 0, i st.room, .map m, OV, i st.last], Thing.map m nameK.k (mpS st.L) n, Thing.vec nameE OV (keysS st.L)])) : Sep noF g h (CTs c d m n OV NV PV WV st) := Sp.perm List.perm_append_comm
theorem filt_none {l : List (Int × Int)} {ep : Int} (h : ∀ y ∈ l, ¬ y.2 + 2 ≤ ep) : l.filter (fun y => decide (y.2 + 2 ≤ ep)) = [] ∧ l.filter (fun y => !decide (y.2 + 2 ≤ ep)) = l := by
  constructor
  · rw [List.filter_eq_nil_iff]; intro y hy; simpa using h y hy
  · rw [List.filter_eq_self]; intro y hy; simpa using h y hy
theorem filt_len (l : List (Int × Int)) (ep : Int) : (l.filter (fun y => decide (y.2 + 2 ≤ ep))).length + (l.filter (fun y => !decide (y.2 + 2 ≤ ep))).length = l.length := by
  induction l with
  | nil => rfl
  | cons y l ih =>
    rw [List.filter_cons, List.filter_cons]
    by_cases h : y.2 + 2 ≤ ep
    · simp [h]; omega
    · simp [h]; omega
set_option maxHeartbeats 4000000 in
theorem readers_any {V : LV} {ops : List OpN} (R : Row g V opE ops) (hl : ops.length < 2 ^ 42) : Ok Tryd.prog 5 [V] g fun v _ => v = .bool true := by
  refine ok5 fun wf _ => ?_
  have hlen := fun g' => R.len (P := Tryd.prog) ty29 (g' := g')
  have n30 := nil_p (P := Tryd.prog) ty30 true
  have n33 := nil_p (P := Tryd.prog) ty33 true
  simp only [F5, J5_0]
  have dn := dnew_ok (g := g) (n := 2) (by decide) (by decide)
  have c1 : ((2 : Nat) : Int) = 2 := rfl
  rw [c1] at dn
  simp only [i] at dn
  refine dn.mono ?_
  rintro _ h1 ⟨d, NV, PV, rfl, S1⟩
  simp (disch := omega) only [i, sh, sh2, ext2, J5_1]
  have S1 : Sep noF g h1 (DTg d NV PV .nils (List.replicate 2 0) (List.replicate 2 true) 0 [] ++ []) := by rw [List.append_nil]; exact S1
  have cn := cnew_ok (n := 0) 3 S1
  simp only [i] at cn
  refine cn.mono ?_
  rintro v h2 (⟨hr, _⟩ | ⟨hr, c, m, OV, rfl, S2⟩)
  · exact absurd ⟨by decide, by decide⟩ hr
  rw [List.append_nil] at S2
  simp (disch := omega) only [i, sh, sh2, shi, dec, ext2, J5_2, n33]
  refine lives_pure.to ?_
  have S3 := ct_d S2
  have en := enter_ok (k := 0) (v := 0) S3 (by show (List.replicate 2 (0 : Int)).length ≤ 8; simp) rfl (by omega)
  have c0 : ((0 : Nat) : Int) = 0 := rfl
  have c1' : ((1 : Nat) : Int) = 1 := rfl
  rw [c0] at en
  simp only [i] at en
  simp (disch := omega) only [i, sh, sh2, shi, dec]
  refine en.mono ?_
  rintro _ h4 ⟨rfl, S4⟩
  have I0 : RI g h4 c d ⟨3, [], 0, [1, 0], [true, true], 0, []⟩ := ⟨m, 0, OV, NV, PV, .nils, d_ct (st := ⟨3, [], 0, [1, 0], [true, true], 0, []⟩) S4⟩
  have W0 : RdI ⟨3, [], 0, [1, 0], [true, true], 0, []⟩ := ⟨⟨⟨by decide, by decide⟩, rfl, ⟨by decide, by decide⟩, by decide, List.nodup_nil, List.nodup_nil, fun x hx => (by cases hx), by decide⟩, rfl, .inl ⟨rfl, rfl⟩, fun y hy => by cases hy⟩
  simp (disch := omega) only [i, sh, sh2, shi, dec, J5_3, J5_11]
  refine loop_n (fun n (s : LV) h => ∃ (j : Nat) (st : NSt), s = i (j : Int) ∧ j + n = ops.length ∧ RdI st ∧ st.last ≤ j ∧ RI g h c d st) (n := ops.length) ⟨0, _, rfl, by omega, W0, by decide, I0⟩ ?_
  rintro n s h5 ⟨j, st, rfl, hj, W, hlast, I⟩
  have w := W.wf
  have hL := w.len
  have hrm := w.room
  have hsum := w.sum
  have hn8 := w.nest
  cases n with
  | zero =>
    obtain ⟨m, n', OV, NV, PV, WV, Sp⟩ := I
    have Sd := ct_d Sp
    simp (disch := omega) only [L5_12, i, sh, sh2, shi, dec, b_len, hlen, J5_4]
    refine (waiting_ok (d_x Sd) (d_n Sd) hn8.1 hn8.2 (d_w Sd) (by omega)).mono ?_
    intro U h6 SU
    have hlU := fun g' => (SU.row (E := intE) (V := U) (l := st.waits.map (·.1)) 0 rfl).len (P := Tryd.prog) ty38 (g' := g')
    rw [List.length_map] at hlU
    have S6 := Sd.pure SU.fr
    have hp := w.passed
    have lv := leave_ok (k := 0) S6 hn8.2 hp (by rw [W.nest]; rfl)
    rw [c0] at lv
    simp only [i] at lv
    simp (disch := omega) only [i, sh, sh2, b_len, hlU, J5_5]
    refine lv.mono ?_
    rintro _ h7 ⟨rfl, S7⟩
    rw [W.nest] at S7
    have pl : ∃ b, st.passed.set 0 true = [true, b] := by
      rcases W.ep with ⟨_, h⟩ | ⟨_, b, h⟩
      · exact ⟨true, by rw [h]; rfl⟩
      · exact ⟨b, by rw [h]; rfl⟩
    obtain ⟨b, hb⟩ := pl
    rw [hb] at S7
    have S7 : Sep noF g h7 (DTg d NV PV WV [0, 0] [true, b] st.ep st.waits ++ [Thing.cells c [.ptr d 0, i st.room, .map m, OV, i st.last], Thing.map m nameK.k (mpS st.L) n', Thing.vec nameE OV (keysS st.L)]) := S7
    generalize [Thing.cells c [.ptr d 0, i st.room, .map m, OV, i st.last], Thing.map m nameK.k (mpS st.L) n', Thing.vec nameE OV (keysS st.L)] = Zs at *
    have hep : 0 ≤ st.ep ∧ st.ep ≤ 1 := by rcases W.ep with ⟨h, _⟩ | ⟨h, _⟩ <;> omega
    simp (disch := omega) only [i, sh, sh2, shi, dec, J5_6, J5_7, J5_9]
    refine loop_n (fun n (s : LV × LV) h => ∃ (k : Nat) (cnt : Int) (ws : List (Int × Int)) (p0 p1 : Bool) (WV' : LV), s = (i cnt, i (k : Int)) ∧ k + n = 3 ∧ 0 ≤ cnt ∧ cnt + ws.length = st.waits.length ∧ (∀ y ∈ ws, 0 ≤ y.2 ∧ y.2 ≤ 1) ∧ (0 < k → ∀ y ∈ ws, ¬ y.2 + 2 ≤ st.ep + k) ∧ Sep noF g h (DTg d NV PV WV' [0, 0] [p0, p1] (st.ep + k) ws ++ Zs)) (n := 3)
      ⟨0, 0, st.waits, true, b, WV, rfl, rfl, by omega, by omega, W.old, by omega, by
        have e : st.ep + ((0 : Nat) : Int) = st.ep := by omega
        rw [e]; exact S7⟩ ?_
    rintro n s h8 ⟨k, cnt, ws, p0, p1, WV', rfl, hk, hc0, hcn, hold, hnew, S8⟩
    cases n with
    | zero =>
      obtain rfl : k = 3 := by omega
      have hws : ws = [] := by
        cases ws with
        | nil => rfl
        | cons y l =>
          have h1 := hnew (by omega) y (List.mem_cons_self ..)
          have h2 := hold y (List.mem_cons_self ..)
          omega
      subst hws
      have hcnt : cnt = (st.waits.length : Int) := by simpa using hcn
      simp (disch := omega) only [L5_10, i, sh, sh2, shi, dec, J5_8]
      refine (waiting_ok (d_x S8) (d_n S8) (by decide) (by decide) (d_w S8) (by decide)).mono ?_
      intro U2 h9 SU2
      have hlU2 := fun g' => (SU2.row (E := intE) (V := U2) (l := []) 0 rfl).len (P := Tryd.prog) ty38 (g' := g')
      have hz : ∀ g', lenL Tryd.prog 38 U2 g' = some (.int .i64 0) := hlU2
      simp (disch := omega) only [i, sh, sh2, shi, dec, b_len, hz]
    | succ n =>
      have hkk : k < 3 := by omega
      have p1' := pass_ok S8 (by decide) rfl (k := 0) (v := 0) rfl rfl
      rw [c0] at p1'
      simp only [i] at p1'
      simp (disch := omega) only [L5_10, i, sh, sh2, shi, dec]
      refine p1'.mono ?_
      intro _ h9 S9
      have p2' := pass_ok S9 (by decide) rfl (k := 1) (v := 0) rfl rfl
      rw [c1'] at p2'
      simp only [i] at p2'
      refine p2'.mono ?_
      intro _ h10 S10
      have S10 : Sep noF g h10 (DTg d NV PV WV' [0, 0] [true, true] (st.ep + k) ws ++ Zs) := S10
      refine (step_ok S10 (by decide) (by decide) rfl (by omega)).mono ?_
      intro _ h11 S11
      have e1 : stepP [true, true] (st.ep + k) = ([false, false], st.ep + k + 1) := rfl
      rw [e1] at S11
      have wl : ws.length < 2 ^ 42 := by omega
      refine (ready_ok S11 (by decide) (by decide) wl (by show 0 ≤ st.ep + k + 1 ∧ st.ep + k + 1 < 1000; omega) (fun y hy => by have := hold y hy; omega)).mono ?_
      rintro U3 h12 ⟨RU3, WV3, S12⟩
      have hlU3 := fun g' => RU3.len (P := Tryd.prog) ty38 (g' := g')
      rw [List.length_map] at hlU3
      have fl := filt_len ws (st.ep + k + 1)
      simp (disch := omega) only [i, sh, sh2, shi, dec, b_len, hlU3]
      have ek : st.ep + (k : Int) + 1 = st.ep + ((k + 1 : Nat) : Int) := by omega
      refine ⟨n, by omega, k + 1, _, ws.filter (fun y => !decide (y.2 + 2 ≤ st.ep + k + 1)), false, false, WV3, by simp; rfl, by omega, by omega, by omega, fun y hy => hold y (List.mem_filter.1 hy).1, fun _ y hy => by
        have := (List.mem_filter.1 hy).2
        rw [← ek]; simpa using this, ?_⟩
      rw [← ek]; exact S12
  | succ n =>
    obtain ⟨o, ho, _⟩ := drop_at (l := ops) (k := j) (by omega)
    have tail : ∀ {h6 : LHeap} {st' : NSt}, RdI st' → st'.last ≤ st.last + 1 → RI g h6 c d st' → J5_15 V (.ptr d 0) (.ptr c 0) (i (j : Int)) h6 (fun s h => ∃ m, m < n + 1 ∧ ∃ (j : Nat) (st : NSt), s = i (j : Int) ∧ j + m = ops.length ∧ RdI st ∧ st.last ≤ j ∧ RI g h c d st) fun v _ => v = .bool true := by
      rintro h6 st' W' hl' ⟨m, n', OV, NV, PV, WV, Sp⟩
      have w' := W'.wf
      have hs' := w'.sum
      have Sd := ct_d Sp
      have hp := w'.passed
      have hn8 := w'.nest
      have p1 := pass_ok Sd hn8.2 hp (k := 1) (v := 0) (by rw [W'.nest]; rfl) rfl
      rw [c1'] at p1
      simp only [i] at p1
      simp only [J5_15, i]
      refine p1.mono ?_
      intro _ h7 S7
      have hep : 0 ≤ st'.ep ∧ st'.ep ≤ 1 := by rcases W'.ep with ⟨h, _⟩ | ⟨h, _⟩ <;> omega
      refine (step_ok S7 hn8.1 hn8.2 (by rw [List.length_set]; exact hp) (by omega)).mono ?_
      intro _ h8 S8
      have I8 := W'.step
      have S8 : Sep noF g h8 (DTg d NV PV WV (stepD st').nest (stepD st').passed (stepD st').ep (stepD st').waits ++ [Thing.cells c [.ptr d 0, i (stepD st').room, .map m, OV, i (stepD st').last], Thing.map m nameK.k (mpS (stepD st').L) n', Thing.vec nameE OV (keysS (stepD st').L)]) := S8
      have hl8 : (stepD st').last = st'.last := rfl
      generalize stepD st' = st8 at *
      have hep8 : 0 ≤ st8.ep ∧ st8.ep ≤ 1 := by rcases I8.ep with ⟨h, _⟩ | ⟨h, _⟩ <;> omega
      have hs8 := I8.wf.sum
      refine (ready_ok S8 I8.wf.nest.1 I8.wf.nest.2 (by omega) (by omega) (fun y hy => by have := I8.old y hy; omega)).mono ?_
      rintro U h9 ⟨RU, WV9, S9⟩
      obtain ⟨fn1, fn2⟩ := filt_none (l := st8.waits) (ep := st8.ep) fun y hy => by have := I8.old y hy; omega
      rw [fn1] at RU
      rw [fn2] at S9
      have hz : ∀ g', lenL Tryd.prog 38 U g' = some (.int .i64 0) := fun g' => RU.len (P := Tryd.prog) ty38 (g' := g')
      simp (disch := omega) only [i, sh, sh2, shi, dec, b_len, hz, J5_14]
      exact ⟨n, by omega, j + 1, st8, by simp, by omega, I8, by omega, m, n', OV, NV, PV, WV9, d_ct S9⟩
    obtain ⟨m, n', OV, NV, PV, WV, Sp⟩ := I
    have Rh := R.old wf Sp.fr
    have ix := Rh.ix (k := .i64) (i := j) (by omega)
    obtain ⟨a, off, e1, ef, ef2⟩ := Rh.fla ho
    have e4 : opE.e = 4 := rfl
    rw [e4] at ix e1
    rw [e1] at ix
    have ef0 := ef 0 _ rfl
    have ef1 := ef2 1 2 (by decide)
    have ef1 : cellO (some 2) (off + 1) (h5.get a) = some (.agg (nameE.f o.key)) := ef1
    have ef3 := ef 3 _ rfl
    rw [Nat.add_zero] at ef0
    simp only [i] at ef0 ef3 tail
    have S0 : Sep noF g h5 (CTs c d m n' OV NV PV WV st ++ []) := by rw [List.append_nil]; exact Sp
    by_cases k2 : o.kind = 2
    · simp (disch := omega) only [L5_12, J5_13, i, sh, sh2, shi, dec, b_len, hlen, ix, ef0, ef1, ef3]
      have pk := put_ok S0 w (by omega) o.key o.ino
      simp only [i] at pk
      refine ⟨pk.mono ?_, trivial⟩
      rintro _ h6 ⟨rfl, n6, OV6, WV6, S6⟩
      rw [List.append_nil] at S6
      by_cases hneg : o.ino < 0
      · rw [if_pos hneg] at S6
        exact tail W (by omega) ⟨m, n6, OV6, NV, PV, WV6, S6⟩
      · rw [if_neg hneg] at S6
        exact tail (W.put o.key o.ino) (Int.le_refl _) ⟨m, n6, OV6, NV, PV, WV6, S6⟩
    by_cases k3 : o.kind = 3
    · simp (disch := omega) only [L5_12, J5_13, i, sh, sh2, shi, dec, b_len, hlen, ix, ef0, ef1, ef3]
      refine (forget_ok S0 w (by omega) o.key).mono ?_
      rintro _ h6 ⟨rfl, n6, OV6, WV6, S6⟩
      rw [List.append_nil] at S6
      exact tail (W.forget o.key) (by rw [(forget_last st o.key).1]; omega) ⟨m, n6, OV6, NV, PV, WV6, S6⟩
    · simp (disch := omega) only [L5_12, J5_13, i, sh, sh2, shi, dec, b_len, hlen, ix, ef0, ef1, ef3]
      exact tail W (by omega) ⟨m, n', OV, NV, PV, WV, Sp⟩
end
end Go.Proofs.YthinkofjbabfbaaDoor
