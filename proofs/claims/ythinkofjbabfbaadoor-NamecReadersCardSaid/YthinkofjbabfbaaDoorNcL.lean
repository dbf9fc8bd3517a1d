/-
  rcu's domain: Enter, Leave, Pass, Step, Ready.
-/
import Derived.Test.YthinkofjbabfbaaDoorNcJ
set_option linter.all false
namespace Go.Proofs.YthinkofjbabfbaaDoor
open Go.ChangeShapes Go.WideShapes Go.ChangeAt Go.RowKit Go.Lm
set_option linter.unusedSimpArgs false
set_option linter.unusedVariables false
set_option maxRecDepth 10000
theorem zr4 : zeroL Tryd.prog 4 = some (.bool false) := by kernel_rfl
section
variable {F : Nat → Prop} {g h : LHeap} {d : Nat} {NV PV WV : LV} {nest : List Int} {passed : List Bool} {ep : Int} {waits : List (Int × Int)} {Ts Zs : List Thing}
theorem sepClear {l : List Bool} (Sp : Sep F g h Ts) (k : Nat) (hk : Ts[k]? = some (Thing.vec boolE PV l)) : ∃ H, builtinL Tryd.prog .clear [106] [PV] h = some (undefL, H) ∧ Sep F g H (Ts.set k (Thing.vec boolE PV (List.replicate l.length false))) := by
  have R := Sp.row k hk
  have G := Sp.grow k hk
  have M := Sp.mine k hk
  obtain ⟨U, H, e1, e2, R2, G2, M2, f2⟩ := R.tailcut (P := Tryd.prog) M G.capd (i := 0) (z := false) (by omega) ty106 zr4 rfl
  rw [List.take_zero, List.nil_append, Nat.sub_zero] at R2
  have e3 : clearL Tryd.prog 106 PV h = clearL Tryd.prog 106 U h := by
    rcases R with ⟨rfl, rfl | ⟨a, off, alt, z, b, rfl⟩⟩ | ⟨a, off, cap, vs, own, rfl, _⟩
    · simp [cutL] at e1; rw [← e1]
    · simp [cutL] at e1; rw [← e1]; try rfl
    · cases cap with
      | ex c =>
        simp [cutL, cutS] at e1
        obtain ⟨_, e1⟩ := e1
        rw [← e1]
      | op e' =>
        simp only [cutL, cutS] at e1
        rw [if_pos (by simp)] at e1
        split at e1
        · split at e1
          · cases e1
            simp [clearL]
          · rename_i h0
            cases e1
            have h0 : l.length = 0 := by
              simp only [Option.getD_some] at h0
              have := Nat.le_max_left l.length (limL (.slice a off l.length (.op e')) h)
              omega
            simp [clearL, ty106, zr4, h0]
        · cases e1
  refine ⟨H, by show (clearL Tryd.prog 106 PV h).map _ = _; rw [e3, e2]; rfl, ?_⟩
  exact Sp.put k hk _ f2 ⟨R2, G2 G, M2⟩ fun a ha => ⟨.inl ha, Nat.lt_of_lt_of_le (Sp.lt k hk ha) f2.le⟩
theorem mid_at {A : List Thing} {X Y : Thing} : (A ++ [X] ++ [Y])[A.length]? = some X := by
  rw [List.append_assoc, List.getElem?_append_right (Nat.le_refl _), Nat.sub_self]; rfl
theorem mid_set {A : List Thing} {X Y X' : Thing} : (A ++ [X] ++ [Y]).set A.length X' = A ++ [X'] ++ [Y] := by
  rw [List.append_assoc, List.set_append_right _ _ (Nat.le_refl _), Nat.sub_self, List.append_assoc]; rfl
theorem d_x (Sp : Sep F g h (DTg d NV PV WV nest passed ep waits ++ Zs)) : h.get d = some (.cells [NV, PV, i ep, WV] .ex) := Sp.cell 0 rfl
theorem d_n (Sp : Sep F g h (DTg d NV PV WV nest passed ep waits ++ Zs)) : Row h NV intE nest := Sp.row 1 rfl
theorem d_p (Sp : Sep F g h (DTg d NV PV WV nest passed ep waits ++ Zs)) : Row h PV boolE passed := Sp.row 2 rfl
theorem d_w (Sp : Sep F g h (DTg d NV PV WV nest passed ep waits ++ Zs)) : Row h WV waitE waits := Sp.row 3 rfl
theorem is63_ok (Sp : Sep F g h (DTg d NV PV WV nest passed ep waits ++ Zs)) (hm : nest.length ≤ 8) {k : Nat} (hk : k < nest.length) : Ok Tryd.prog 63 [.ptr d 0, i (k : Int)] h fun v h' => v = .bool true ∧ h' = h := by
  refine ok63 fun _ _ => ?_
  have x := d_x Sp
  have hl := fun g' => (d_n Sp).len (P := Tryd.prog) ty38 (g' := g')
  simp only [F63]
  refine (made61_ok x (d_n Sp) (by omega) hm).mono ?_
  rintro _ h ⟨rfl, rfl⟩
  simp (disch := omega) only [i, sh, sh2, shc, shi, dec, x, b_len, hl]
/-- A hart passes. -/
theorem pass_ok (Sp : Sep F g h (DTg d NV PV WV nest passed ep waits ++ Zs)) (hm : nest.length ≤ 8) (hp : passed.length = nest.length) {k : Nat} {v : Int} (hk : nest[k]? = some v) (hv : v = 0) :
    Ok Tryd.prog 28 [.ptr d 0, i (k : Int)] h fun v h' => Sep F g h' (DTg d NV PV WV nest (passed.set k true) ep waits ++ Zs) := by
  refine ok28 fun _ _ => ?_
  subst hv
  have hkl := (List.getElem?_eq_some_iff.1 hk).1
  have x := d_x Sp
  have ix := (d_n Sp).ix (k := .i64) (i := k) hkl
  have ld := (d_n Sp).ld1 hk rfl rfl
  have e1 : intE.e = 1 := rfl
  rw [e1] at ix
  have hpx : passed[k]? = some passed[k] := List.getElem?_eq_getElem (by omega)
  have ixp := (d_p Sp).ix (k := .i64) (i := k) (by omega)
  obtain ⟨a, off, h4, e2, e3, S4, _, _⟩ := Sp.stf (E := boolE) (V := PV) (l := passed) 2 rfl (k := k) (j := 0) true (v := .bool true) rfl hpx (by decide) rfl
  have e4 : boolE.e = 1 := rfl
  rw [e4] at ixp e2
  rw [e2] at ixp
  rw [Nat.add_zero] at e3
  simp only [F28]
  refine (is63_ok Sp hm hkl).mono ?_
  rintro _ h ⟨rfl, rfl⟩
  simp (disch := omega) only [i, sh, sh2, shc, shi, dec, x, ix, ld, ixp, e3]
  exact S4
theorem pass_in (Sp : Sep F g h (DTg d NV PV WV nest passed ep waits ++ Zs)) (hm : nest.length ≤ 8) {k : Nat} {v : Int} (hk : nest[k]? = some v) (hv : 0 < v) :
    Ok Tryd.prog 28 [.ptr d 0, i (k : Int)] h fun v h' => Sep F g h' (DTg d NV PV WV nest passed ep waits ++ Zs) := by
  refine ok28 fun _ _ => ?_
  have hkl := (List.getElem?_eq_some_iff.1 hk).1
  have x := d_x Sp
  have ix := (d_n Sp).ix (k := .i64) (i := k) hkl
  have ld := (d_n Sp).ld1 hk rfl rfl
  have e1 : intE.e = 1 := rfl
  rw [e1] at ix
  simp only [F28]
  refine (is63_ok Sp hm hkl).mono ?_
  rintro _ h ⟨rfl, rfl⟩
  simp (disch := omega) only [i, sh, sh2, shc, shi, dec, x, ix, ld]
  exact Sp
def stepP (passed : List Bool) (ep : Int) : List Bool × Int := if false ∈ passed then (passed, ep) else (List.replicate passed.length false, ep + 1)
/-- The epoch goes on, if all have passed. -/
theorem step_ok (Sp : Sep F g h (DTg d NV PV WV nest passed ep waits ++ Zs)) (h1 : 1 ≤ nest.length) (hm : nest.length ≤ 8) (hp : passed.length = nest.length) (he : 0 ≤ ep ∧ ep < 1000) :
    Ok Tryd.prog 29 [.ptr d 0] h fun v h' => Sep F g h' (DTg d NV PV WV nest (stepP passed ep).1 (stepP passed ep).2 waits ++ Zs) := by
  refine ok29 fun _ _ => ?_
  have x := d_x Sp
  simp only [F29]
  refine (made61_ok x (d_n Sp) h1 hm).mono ?_
  rintro _ h ⟨rfl, rfl⟩
  simp (disch := omega) only [i, sh, sh2, shc, shi, dec, x]
  refine (contains64_ok (d_p Sp) (by omega) false).mono ?_
  rintro _ h ⟨rfl, rfl⟩
  unfold stepP
  by_cases hf : false ∈ passed
  · rw [decide_eq_true hf, if_pos hf]
    simp (disch := omega) only [i, sh, sh2, shc, shi, dec]
    exact Sp
  · rw [decide_eq_false hf, if_neg hf]
    have S2 := Sp.store 0 rfl [NV, PV, i (ep + 1), WV]
    have est : storeV 1 (.ptr d 2) (.int .i64 (ep + 1)) h = some (h.set d (.cells [NV, PV, i (ep + 1), WV] .ex)) := by rw [store_o _ _ _ rfl, x]; rfl
    generalize h.set d (.cells [NV, PV, i (ep + 1), WV] .ex) = h2 at *
    have S2 : Sep F g h2 (DTg d NV PV WV nest passed (ep + 1) waits ++ Zs) := S2
    have x2 := d_x S2
    obtain ⟨H, ec, S3⟩ := sepClear S2 (PV := PV) (l := passed) 2 rfl
    simp (disch := omega) only [i, sh, sh2, shc, shi, dec, x, est, x2, ec]
    exact S3
set_option maxHeartbeats 1000000 in
/-- What is ready is taken out. -/
theorem ready_ok (Sp : Sep F g h (DTg d NV PV WV nest passed ep waits ++ Zs)) (h1 : 1 ≤ nest.length) (hm : nest.length ≤ 8) (hw : waits.length < 2 ^ 42) (he : 0 ≤ ep ∧ ep < 1000) (hq : ∀ y ∈ waits, 0 ≤ y.2 ∧ y.2 < 1000) :
    Ok Tryd.prog 30 [.ptr d 0] h fun v h' => Row h' v intE ((waits.filter fun y => decide (y.2 + 2 ≤ ep)).map (·.1)) ∧ ∃ WV', Sep F g h' (DTg d NV PV WV' nest passed ep (waits.filter fun y => !decide (y.2 + 2 ≤ ep)) ++ Zs) := by
  refine ok30 fun _ _ => ?_
  have x := d_x Sp
  have hl := fun g' => (d_w Sp).len (P := Tryd.prog) ty107 (g' := g')
  simp only [F30, J30_0]
  refine (made61_ok x (d_n Sp) h1 hm).mono ?_
  rintro _ h ⟨rfl, rfl⟩
  simp (disch := omega) only [i, sh, sh2, shc, shi, dec, x, b_len, hl, J30_1, J30_2, J30_3, J30_5]
  have S0 := (Sp.nils intE).nils waitE
  refine loop_n (fun n (s : LV × LV × LV) h' => ∃ (k : Nat) (X Y : LV), s = (X, Y, i (k : Int)) ∧ k + n = waits.length ∧ Sep F g h' (DTg d NV PV WV nest passed ep waits ++ Zs ++ [Thing.vec intE X (((waits.take k).filter fun y => decide (y.2 + 2 ≤ ep)).map (·.1))] ++ [Thing.vec waitE Y ((waits.take k).filter fun y => !decide (y.2 + 2 ≤ ep))])) (n := waits.length)
    ⟨0, .nils, .nils, rfl, by omega, by simpa using S0⟩ ?_
  rintro n s h' ⟨k, X, Y, rfl, hk, Sk⟩
  have xk := Sk.cell (a := d) (vs := [NV, PV, i ep, WV]) 0 rfl
  cases n with
  | zero =>
    obtain rfl : k = waits.length := by omega
    rw [List.take_length] at Sk
    have RY := (Sk.at _ last_at).1
    have RX : Row h' X intE ((waits.filter fun y => decide (y.2 + 2 ≤ ep)).map (·.1)) := (Sk.init.at _ last_at).1
    -- left takes the place
    have S2 : Sep F g h' ((DTg d NV PV WV nest passed ep waits ++ Zs ++ [Thing.vec intE X ((waits.filter fun y => decide (y.2 + 2 ≤ ep)).map (·.1))]).set 3 (Thing.vec waitE Y (waits.filter fun y => !decide (y.2 + 2 ≤ ep)))) := Sk.move (i := 3) (T := Thing.vec waitE WV waits) rfl
    have S2 : Sep F g h' (([Thing.cells d [NV, PV, i ep, WV], Thing.vec intE NV nest, Thing.vec boolE PV passed, Thing.vec waitE Y (waits.filter fun y => !decide (y.2 + 2 ≤ ep))] ++ Zs) ++ [Thing.vec intE X ((waits.filter fun y => decide (y.2 + 2 ≤ ep)).map (·.1))]) := S2
    have S3 := S2.store 0 rfl [NV, PV, i ep, Y]
    have est : storeV 1 (.ptr d 3) Y h' = some (h'.set d (.cells [NV, PV, i ep, Y] .ex)) := by rw [store_o _ _ _ RY.cell, xk]; rfl
    simp (disch := omega) only [L30_6, J30_4, i, sh, sh2, shc, shi, dec, est]
    have S3 : Sep F g (h'.set d (.cells [NV, PV, i ep, Y] .ex)) ((DTg d NV PV Y nest passed ep (waits.filter fun y => !decide (y.2 + 2 ≤ ep)) ++ Zs) ++ [Thing.vec intE X ((waits.filter fun y => decide (y.2 + 2 ≤ ep)).map (·.1))]) := S3
    exact ⟨(S3.at _ last_at).1, Y, S3.init⟩
  | succ n =>
    obtain ⟨y, hy, _⟩ := drop_at (l := waits) (k := k) (by omega)
    have hyq := hq y (List.mem_of_getElem? hy)
    have RW : Row h' WV waitE waits := Sk.row (E := waitE) (V := WV) (l := waits) 3 rfl
    have ix := RW.ix (k := .i64) (i := k) (by omega)
    have ld := RW.ld hy
    have e2 : waitE.e = 2 := rfl
    rw [e2] at ix ld
    obtain ⟨N, w1, w2⟩ := new_st waitE [.int .i64 0, .int .i64 0] rfl rfl h' y
    rw [e2] at w2
    have f0 : (waitE.f y)[0]? = some (.int .i64 y.1) := rfl
    have c0 : cellO none 0 (some (.cells (waitE.f y) .ex)) = some (.int .i64 y.1) := rfl
    have f1 : (waitE.f y)[1]? = some (.int .i64 y.2) := rfl
    have c1 : cellO none 1 (some (.cells (waitE.f y) .ex)) = some (.int .i64 y.2) := rfl
    have c2 : cellO (some 2) 0 (some (.cells (waitE.f y) .ex)) = some (.agg (waitE.f y)) := rfl
    have xc : (h'.alloc (.cells (waitE.f y) .ex)).get h'.next = some (.cells (waitE.f y) .ex) := get_alloc_eq _ _
    have S3 := Sk.temp (.cells (waitE.f y) .ex)
    have x3 := S3.cell (a := d) (vs := [NV, PV, i ep, WV]) 0 rfl
    generalize hh : h'.alloc (.cells (waitE.f y) .ex) = h3 at *
    have tk := take_snoc hy
    have l1 : (((waits.take k).filter fun y => decide (y.2 + 2 ≤ ep)).map (·.1)).length ≤ k := by
      rw [List.length_map]; exact Nat.le_trans (List.length_filter_le _ _) (by rw [List.length_take]; omega)
    have l2 : ((waits.take k).filter fun y => !decide (y.2 + 2 ≤ ep)).length ≤ k := Nat.le_trans (List.length_filter_le _ _) (by rw [List.length_take]; omega)
    by_cases hr : y.2 + 2 ≤ ep
    · obtain ⟨X', h4, e, S4, c4, _⟩ := S3.push (E := intE) (V := X) _ mid_at (bytes := 8) y.1 (cs := [i y.1]) rfl (by omega)
      rw [mid_set] at S4
      have e : appendL 1 8 X _ _ = _ := e
      have bs := bs38_1 h3 y.1
      have ap := ap38 (V := X) (U := .slice h3.next 0 1 (.ex 1)) rfl (h3.alloc (.cells [i y.1] .ex))
      rw [e] at ap
      simp only [i] at ap
      simp (disch := omega) only [L30_6, i, sh, sh2, shc, shi, dec, ix, ld, w1, w2, hh, x3, xc, c0, c1, f0, f1, bs, ap]
      refine ⟨n, by omega, k + 1, X', Y, by simp, by omega, ?_⟩
      have e1 : (waits.take (k + 1)).filter (fun y => decide (y.2 + 2 ≤ ep)) = (waits.take k).filter (fun y => decide (y.2 + 2 ≤ ep)) ++ [y] := by rw [tk, List.filter_append]; simp [hr]
      have e2 : (waits.take (k + 1)).filter (fun y => !decide (y.2 + 2 ≤ ep)) = (waits.take k).filter (fun y => !decide (y.2 + 2 ≤ ep)) := by rw [tk, List.filter_append]; simp [hr]
      rw [e1, e2, List.map_append]
      exact S4
    · obtain ⟨Y', h4, e, S4, c4, _⟩ := S3.push (E := waitE) (V := Y) _ last_at (bytes := 16) y (cs := waitE.f y) rfl (by omega)
      rw [set_last] at S4
      have e : appendL 2 16 Y _ _ = _ := e
      have bs := bs107_1 h3 y.1 y.2
      have bs : buildSliceL Tryd.prog 107 1 [(0, .agg (waitE.f y))] h3 = some (.slice h3.next 0 1 (.ex 1), h3.alloc (.cells (waitE.f y) .ex)) := bs
      have ap := ap107 (V := Y) (U := .slice h3.next 0 1 (.ex 1)) rfl (h3.alloc (.cells (waitE.f y) .ex))
      rw [e] at ap
      simp (disch := omega) only [L30_6, i, sh, sh2, shc, shi, dec, ix, ld, w1, w2, hh, x3, xc, c0, c1, c2, f0, f1, bs, ap]
      refine ⟨n, by omega, k + 1, X, Y', by simp, by omega, ?_⟩
      have e1 : (waits.take (k + 1)).filter (fun y => decide (y.2 + 2 ≤ ep)) = (waits.take k).filter (fun y => decide (y.2 + 2 ≤ ep)) := by rw [tk, List.filter_append]; simp [hr]
      have e2 : (waits.take (k + 1)).filter (fun y => !decide (y.2 + 2 ≤ ep)) = (waits.take k).filter (fun y => !decide (y.2 + 2 ≤ ep)) ++ [y] := by rw [tk, List.filter_append]; simp [hr]
      rw [e1, e2]
      exact S4
theorem enter_ok (Sp : Sep F g h (DTg d NV PV WV nest passed ep waits ++ Zs)) (hm : nest.length ≤ 8) {k : Nat} {v : Int} (hk : nest[k]? = some v) (hv : 0 ≤ v ∧ v < 16) :
    Ok Tryd.prog 27 [.ptr d 0, i (k : Int)] h fun r h' => r = i 0 ∧ Sep F g h' (DTg d NV PV WV (nest.set k (v + 1)) passed ep waits ++ Zs) := by
  refine ok27 fun _ _ => ?_
  have hkl := (List.getElem?_eq_some_iff.1 hk).1
  have x := d_x Sp
  have ix := (d_n Sp).ix (k := .i64) (i := k) hkl
  obtain ⟨a', off', e2', ef⟩ := (d_n Sp).fl hk
  obtain ⟨a, off, h4, e2, e3, S4, _, _⟩ := Sp.stf (E := intE) (V := NV) (l := nest) 1 rfl (k := k) (j := 0) (v + 1) (v := i (v + 1)) rfl hk (by decide) rfl
  have ef0 := ef 0 _ rfl
  rw [e2] at e2'; cases e2'
  have e1 : intE.e = 1 := rfl
  rw [e1] at ix e2
  rw [e2] at ix
  rw [Nat.add_zero] at e3 ef0
  simp only [F27]
  refine (made61_ok x (d_n Sp) (by omega) hm).mono ?_
  rintro _ h ⟨rfl, rfl⟩
  simp (disch := omega) only [i, sh, sh2]
  refine (is63_ok Sp hm hkl).mono ?_
  rintro _ h ⟨rfl, rfl⟩
  simp only [i] at e3 ef0
  simp (disch := omega) only [i, sh, sh2, shc, shi, dec, x, ix, ef0, e3]
  exact S4
theorem leave_ok (Sp : Sep F g h (DTg d NV PV WV nest passed ep waits ++ Zs)) (hm : nest.length ≤ 8) (hp : passed.length = nest.length) {k : Nat} (hk : nest[k]? = some 1) :
    Ok Tryd.prog 31 [.ptr d 0, i (k : Int)] h fun r h' => r = i 0 ∧ Sep F g h' (DTg d NV PV WV (nest.set k 0) (passed.set k true) ep waits ++ Zs) := by
  refine ok31 fun _ _ => ?_
  have hkl := (List.getElem?_eq_some_iff.1 hk).1
  have x := d_x Sp
  have ix := (d_n Sp).ix (k := .i64) (i := k) hkl
  obtain ⟨a', off', e2', ef⟩ := (d_n Sp).fl hk
  obtain ⟨a, off, h4, e2, e3, S4, _, _⟩ := Sp.stf (E := intE) (V := NV) (l := nest) 1 rfl (k := k) (j := 0) 0 (v := i 0) rfl hk (by decide) rfl
  have S4 : Sep F g h4 (DTg d NV PV WV (nest.set k 0) passed ep waits ++ Zs) := S4
  have ef0 := ef 0 _ rfl
  rw [e2] at e2'; cases e2'
  have e1 : intE.e = 1 := rfl
  rw [e1] at ix e2
  rw [e2] at ix
  rw [Nat.add_zero] at e3 ef0
  have sub : binL Tryd.prog .sub 3 true (.int .i64 1) (.int .i64 1) = some (.int .i64 0) := by kernel_rfl
  simp only [F31]
  refine (made61_ok x (d_n Sp) (by omega) hm).mono ?_
  rintro _ h ⟨rfl, rfl⟩
  simp (disch := omega) only [i, sh, sh2]
  refine (is63_ok Sp hm hkl).mono ?_
  rintro _ h ⟨rfl, rfl⟩
  simp only [i] at e3 ef0
  simp (disch := omega) only [i, sh, sh2, shc, shi, dec, x, ix, ef0, sub, e3]
  have ps := pass_ok S4 (by rw [List.length_set]; exact hm) (by rw [List.length_set]; exact hp) (k := k) (v := 0) (by rw [List.getElem?_set_self hkl]) rfl
  simp only [i] at ps
  refine ps.mono ?_
  intro _ h5 S5
  exact S5
end
end Go.Proofs.YthinkofjbabfbaaDoor
