/-
  waitq beside its reference: one call of both is told the same.
-/
import Derived.Test.YtgncgokjbakdmaaWaM
import Derived.Test.YtgncgokjbakdmaaWaN
set_option linter.all false
namespace Go.Proofs.Ytgncgokjbakdmaa
open Go.ChangeShapes Go.WideShapes Go.ChangeAt Go.RowKit Go.Lm
set_option linter.unusedSimpArgs false
set_option linter.unusedVariables false
set_option maxRecDepth 10000
section
variable {g g0 h : LHeap} {q r n : Nat} {col : Nat → Option Tag} {on : Int → Option (List Chan)} {sl : Chan → List Int} {s : List Seat} {S S2 : Nat → Prop}
theorem WQ.keys (D : WQ g q col on sl n) : ∃ ks : List Int, ks.Nodup ∧ ks.length = n ∧ n ≤ 64 ∧ ∀ t, t ∈ ks ↔ (on t).isSome = true := by
  obtain ⟨ms, mo, mpS, mpO, nS, D⟩ := D
  obtain ⟨kv, ⟨_, h3, _⟩, h4, h5⟩ := D.mapO
  refine ⟨kv.map (·.1), h3, by rw [List.length_map, h5], D.most, fun t => ?_⟩
  rw [← look_dom, h4]
  rcases D.ons t with ⟨e1, e2⟩ | ⟨V, l, a, e1, e2, _⟩
  · rw [e1, e2]; simp
  · rw [e1, e2]; simp
theorem WQ.cnt (D : WQ g q col on sl n) {l : List Int} (nd : l.Nodup) (hm : ∀ t, t ∈ l ↔ (on t).isSome = true) : l.length = n := by
  obtain ⟨ks, k1, k2, _, k3⟩ := D.keys
  have a := Proofs.Ytgncgokjbakdmaa.few l ks nd fun x hx => (k3 x).2 ((hm x).1 hx)
  have b := Proofs.Ytgncgokjbakdmaa.few ks l k1 fun x hx => (hm x).2 ((k3 x).1 hx)
  omega
theorem AQ.len (A : AQ on sl s) {ks : List Int} (hk : ∀ t, t ∈ ks ↔ (on t).isSome = true) (h64 : ks.length ≤ 64) : s.length ≤ 1024 := by
  have nd : (s.map fun p => (p.1, p.2.2)).Nodup := by
    rw [List.nodup_iff_pairwise_ne, List.pairwise_map]
    refine (List.nodup_iff_pairwise_ne.1 A.nd).imp_of_mem ?_
    rintro ⟨t, c, k⟩ ⟨t', c', k'⟩ h1 h2 hne e
    obtain ⟨rfl, rfl⟩ := Prod.mk.inj e
    obtain ⟨l, a1, a2, a3⟩ := (A.mem _ _ _).1 h1
    obtain ⟨l', b1, b2, b3⟩ := (A.mem _ _ _).1 h2
    rw [a1] at b1; cases b1
    rw [a3] at b3; cases b3
    exact hne rfl
  have hl := few _ (ks.flatMap fun t => (List.range 16).map fun (k : Nat) => (t, (k : Int))) nd fun x hx => by
    obtain ⟨⟨t, c, k⟩, hp, rfl⟩ := List.mem_map.1 hx
    obtain ⟨l, a1, a2, a3⟩ := (A.mem _ _ _).1 hp
    have := (A.le t l a1).1
    have := (List.getElem?_eq_some_iff.1 a3).1
    refine List.mem_flatMap.2 ⟨t, (hk t).2 (by rw [a1]; rfl), List.mem_map.2 ⟨k.toNat, List.mem_range.2 (by omega), ?_⟩⟩
    show (t, ((k.toNat : Nat) : Int)) = (t, k)
    rw [Int.toNat_of_nonneg a2]
  rw [List.length_map] at hl
  have : ∀ ks : List Int, (ks.flatMap fun t => (List.range 16).map fun (k : Nat) => (t, (k : Int))).length = 16 * ks.length := by
    intro ks
    induction ks with
    | nil => rfl
    | cons k ks ih => rw [List.flatMap_cons, List.length_append, ih]; simp; omega
  rw [this] at hl
  omega
theorem AQ.rise (A : AQ on sl s) {al : List Int} (ra : RiseS s al) : ∀ t, t ∈ al ↔ (on t).isSome = true := fun t => by rw [ra.mem, A.dom]
theorem RiseS.nd {al : List Int} (ra : RiseS s al) : al.Nodup := List.nodup_iff_pairwise_ne.2 (ra.up.imp fun h => by omega)
theorem sleep_same (A : AQ on sl s) (t : Int) (l : List Chan) (n : Nat) : rsleepN s n t l = sleepN on n t l := by
  unfold rsleepN sleepN
  rw [A.onS t]
  have e : ((on t).getD [] ≠ []) ↔ (on t).isSome = true := by
    cases h : on t with
    | none => simp
    | some l =>
      have : l ≠ [] := fun e => A.ne t (by rw [h, e])
      simp [this]
  by_cases c : t < 1 ∨ l = [] ∨ 16 < l.length ∨ ¬ l.Nodup
  · rw [if_pos c, if_pos c]
  · rw [if_neg c, if_neg c]
    by_cases d : (on t).getD [] ≠ []
    · rw [if_pos d, if_pos (e.1 d)]
    · rw [if_neg d, if_neg (mt e.2 d)]
theorem AQ.woken (A : AQ on sl s) (w : List Int) : AQ (fun t => if t ∈ w then none else on t) (fun c => (sl c).filter fun t => !decide (t ∈ w)) (goneS s w) := by
  have := A.gone fun t => !decide (t ∈ w)
  have e : (fun t => if (!decide (t ∈ w)) = true then on t else none) = fun t => if t ∈ w then none else on t := by
    funext t
    by_cases h : t ∈ w <;> simp [h]
  rw [e] at this
  exact this
theorem eql28 (a : Int) : binL Try.prog .eql 28 false (i a) (i a) = some (.bool true) := by
  have : binL Try.prog .eql 28 false (i a) (i a) = some (.bool (a == a)) := nr (by kernel_rfl)
  rw [this]; simp
theorem eql4 (b : Bool) : binL Try.prog .eql 4 false (.bool b) (.bool b) = some (.bool true) := by cases b <;> kernel_rfl
theorem add9 (a : Int) : ∃ z, binL Try.prog .add 3 true (i a) (i 9) = some (i z) := ⟨_, rfl⟩
theorem eql3 (a : Int) : binL Try.prog .eql 3 false (i a) (i a) = some (.bool true) := by
  have : binL Try.prog .eql 3 false (i a) (i a) = some (.bool (a == a)) := nr (by kernel_rfl)
  rw [this]; simp
abbrev both (q r : Nat) (S S2 : Nat → Prop) (on : Int → Option (List Chan)) (sl : Chan → List Int) (n : Nat) (s : List Seat) : List Thing := [Thing.wq q S on sl n, RqBox r S2 s]
set_option maxHeartbeats 4000000 in
/-- A call of both. -/
theorem does_ok (wf0 : g0.Wf) (Sp : Sep noF g0 g (both q r S S2 on sl n s)) (A : AQ on sl s) (o : OpX) {l : List Chan} (RL : Row g0 o.L chanE l) (CL : Capd o.L 3) (hl0 : l.length * 24 ≤ 140737488351232) (hLt : ∀ a, o.L.obj = some a → a < g0.next) :
    Ok Try.prog 38 [.ptr q 0, .ptr r 0, .agg (opE.f o)] g fun v h => v = .bool true ∧ (o.kind = 4 → Fr noF g h) ∧ ∃ S' S2' on' sl' n' s', Sep noF g0 h (both q r S' S2' on' sl' n' s') ∧ AQ on' sl' s' := by
  refine ok38 fun wf _ => ?_
  have hn : newL (.agg (opE.f o)) g = some (.ptr g.next 0, g.alloc (.cells (opE.f o) .ex)) := new_agg _ _ (opE.cell o)
  obtain ⟨c0, c1, c2, c3, c4, c5⟩ := op_c o RL.cell
  have S1 := Sp.new (opE.f o)
  have fg : Fr noF g (g.alloc (.cells (opE.f o) .ex)) := Fr.alloc _ _
  have lx : g.next < (g.alloc (.cells (opE.f o) .ex)).next := Nat.lt_succ_self _
  generalize hg1 : g.alloc (.cells (opE.f o) .ex) = g1 at *
  have S1 : Sep noF g0 g1 [Thing.wq q S on sl n, RqBox r S2 s, Thing.cells g.next (opE.f o)] := S1
  generalize g.next = x5 at *
  have xc := S1.cell (a := x5) (vs := opE.f o) 2 rfl
  obtain ⟨col, hcol, D⟩ := Sep.wq S1 0 rfl
  have B := S1.at (T := RqBox r S2 s) 1 rfl
  have blt := S1.boxlt (D := RqD r) (S := S2) (x := s) 1 rfl
  obtain ⟨ks, kd, kl, kn, km⟩ := D.keys
  have hs := A.len km (by omega)
  have fin : ∀ {h' : LHeap} {S' S2' : Nat → Prop} {on' : Int → Option (List Chan)} {sl' : Chan → List Int} {n' : Nat} {s' : List Seat} {P : Prop}, ¬ P → Sep noF g0 h' [Thing.wq q S' on' sl' n', RqBox r S2' s', Thing.cells x5 (opE.f o)] → AQ on' sl' s' →
      (P → Fr noF g h') ∧ ∃ S' S2' on' sl' n' s', Sep noF g0 h' (both q r S' S2' on' sl' n' s') ∧ AQ on' sl' s' := fun hk hS hA =>
    ⟨fun h => absurd h hk, _, _, _, _, _, _, hS.init (Ts := both q r _ _ _ _ _ _), hA⟩
  by_cases k0 : o.kind = 0
  · have hk4 : o.kind ≠ 4 := by omega
    have RL1 := RL.old wf0 S1.fr
    obtain ⟨W, h2, ea, Sc2, cW, f2, lo2⟩ := S1.clone' RL1 (fun b hb => Nat.lt_of_lt_of_le (hLt b hb) S1.le) (bytes := 24) (by omega)
    have ea : appendL 3 24 _ o.L _ = _ := ea
    have ap := ap30 (V := .slice g1.next 0 0 (.ex 0)) (U := o.L) RL1.not_str (g1.alloc (.cells [] .ex))
    rw [ea] at ap
    have b0 := bs30_0 g1
    have xcn : (g1.alloc (.cells [] .ex)).get x5 = some (.cells (opE.f o) .ex) := (get_alloc_ne _ _ (Nat.ne_of_lt lx)).trans xc
    have Sc2 : Sep noF g0 h2 [Thing.wq q S on sl n, RqBox r S2 s, Thing.cells x5 (opE.f o), Thing.vec chanE W l] := Sc2
    have xc2 := Sc2.cell (a := x5) (vs := opE.f o) 2 rfl
    obtain ⟨col2, hcol2, D2⟩ := Sep.wq Sc2 0 rfl
    have RW := Sc2.row (E := chanE) (V := W) (l := l) 3 rfl
    have GW := Sc2.grow (E := chanE) (V := W) (l := l) 3 rfl
    simp (disch := omega) only [F38, J38_0, J38_2, J38_3, J38_4, i, sh, sh2, shi, dec, hn, hg1, xc, c0, k0, b0, xcn, c2, ap, xc2, c1]
    refine (sleep_ok D2 o.tid RW GW.capd (by omega) (fun a ha => Classical.byContradiction fun hc => Sc2.apart (T := Thing.wq q S on sl n) (U := Thing.vec chanE W l) (i := 0) (j := 3) rfl rfl (by decide) ((hcol2 a).2 hc) ha)).mono ?_
    rintro _ h3 ⟨rfl, col3, fq, hD⟩
    -- the program's queue
    have pr : ∃ S3 on3 sl3 n3, Sep noF g0 h3 [Thing.wq q S3 on3 sl3 n3, RqBox r S2 s, Thing.cells x5 (opE.f o), Thing.vec chanE W l] ∧ AQ on3 sl3 (if sleepN on n o.tid l = 0 then s ++ seatsOf o.tid l l.length else s) := by
      by_cases hz : sleepN on n o.tid l = 0
      · rw [if_pos hz] at hD ⊢
        obtain ⟨S3, Sp3⟩ := Sep.wqs Sc2 0 rfl hcol2 hD fq
        refine ⟨S3, _, _, _, Sp3, ?_⟩
        have hc : ¬ (o.tid < 1 ∨ l = [] ∨ 16 < l.length ∨ ¬ l.Nodup) ∧ (on o.tid).isSome ≠ true := by
          unfold sleepN at hz
          split at hz
          · cases hz
          · rename_i h
            split at hz
            · cases hz
            · rename_i h'; exact ⟨h, h'⟩
        obtain ⟨hc1, hc2⟩ := hc
        refine A.sleep (by simpa using hc2) (fun e => hc1 (.inr (.inl e))) (Nat.le_of_not_lt fun e => hc1 (.inr (.inr (.inl e)))) (Classical.byContradiction fun e => hc1 (.inr (.inr (.inr e))))
      · rw [if_neg hz] at hD ⊢
        obtain ⟨S3, Sp3⟩ := Sep.wqs Sc2 0 rfl hcol2 hD fq
        exact ⟨S3, _, _, _, Sp3, A⟩
    obtain ⟨S3, on3, sl3, n3, Sp3, A3⟩ := pr
    have hlW := fun g' => RW.len (P := Try.prog) ty30 (g' := g')
    simp (disch := omega) only [i, sh, sh2, J38_5, b_len, hlW, J38_7]
    refine loop_n (fun m (st : LV) h => ∃ (k : Nat) (l' : List Chan), st = i (k : Int) ∧ k + m = l.length ∧ l'.length = l.length ∧ Sep noF g0 h [Thing.wq q S3 on3 sl3 n3, RqBox r S2 s, Thing.cells x5 (opE.f o), Thing.vec chanE W l']) (n := l.length) ⟨0, l, rfl, by omega, rfl, Sp3⟩ ?_
    rintro m st h4 ⟨k, l', rfl, hk, hl', Sp4⟩
    cases m with
    | zero =>
      obtain rfl : k = l.length := by omega
      have xc4 := Sp4.cell (a := x5) (vs := opE.f o) 2 rfl
      simp (disch := omega) only [L38_8, J38_6, i, sh, sh2, shi, dec, xc4, c1, c2]
      refine (rsleep_ok (Sp4.at (T := RqBox r S2 s) 1 rfl) (Sp4.boxlt (D := RqD r) (S := S2) (x := s) 1 rfl) (by omega) o.tid (RL.old wf0 Sp4.fr) CL (by omega) (fun b hb hS => by
        have h1 := Sp4.ge (T := RqBox r S2 s) 1 rfl hS
        have h2 := hLt b hb
        omega)).mono ?_
      rintro _ h5 ⟨al, ra, rfl, Af⟩
      have hal : al.length = n := D.cnt ra.nd (A.rise ra)
      rw [hal, sleep_same A] at Af ⊢
      obtain ⟨S5, Sp5⟩ := Sp4.call 1 rfl Af
      have eq := eql28 (sleepN on n o.tid l)
      simp only [i] at eq
      simp (disch := omega) only [i, sh, sh2, eq]
      exact ⟨trivial, fin (by decide) (Sp5.init (Ts := [Thing.wq q S3 on3 sl3 n3, RqBox r S5 _, Thing.cells x5 (opE.f o)])) A3⟩
    | succ m =>
      obtain ⟨c, hc, _⟩ := drop_at (l := l') (k := k) (by omega)
      have R4 := Sp4.row (E := chanE) (V := W) (l := l') 3 rfl
      have ix := R4.ix (k := .i64) (i := k) (by omega)
      obtain ⟨z, hz⟩ := add9 c.2.1
      obtain ⟨a, off, h5, e1, e2, Sp5, _, _⟩ := Sp4.stf (E := chanE) (V := W) (l := l') 3 rfl (k := k) (j := 1) (x := c) (c.1, z, c.2.2) (v := i z) rfl hc (by decide) rfl
      obtain ⟨a', off', e1', ef⟩ := R4.fl hc
      rw [e1] at e1'; cases e1'
      have ef1 := ef 1 (i c.2.1) rfl
      have e3 : chanE.e = 3 := rfl
      rw [e3] at ix e1
      rw [e1] at ix
      simp only [i] at hz e2 ef1
      simp (disch := omega) only [L38_8, i, sh, sh2, shi, dec, ix, ef1, hz, e2]
      exact ⟨m, by omega, k + 1, _, by simp, by omega, by rw [List.length_set]; exact hl', Sp5⟩
  by_cases k1 : o.kind = 1
  · have hk4 : o.kind ≠ 4 := by omega
    simp (disch := omega) only [F38, J38_0, J38_2, J38_3, i, sh, sh2, shi, dec, hn, hg1, xc, c0, k1, c3, c5]
    refine ⟨(wake_ok D o.a o.n).mono ?_, trivial⟩
    rintro W h2 ⟨OW, col2, D2, fq, wfree⟩
    obtain ⟨S3, Sp3⟩ := Sep.wqs S1 0 rfl hcol D2 fq
    have Sp3 : Sep noF g0 h2 [Thing.wq q S3 _ _ _, RqBox r S2 s, Thing.cells x5 (opE.f o)] := Sp3
    have xc3 := Sp3.cell (a := x5) (vs := opE.f o) 2 rfl
    simp (disch := omega) only [i, sh, sh2, xc3, c3, c5]
    refine ⟨trivial, trivial, (rwake_ok (Sp3.at (T := RqBox r S2 s) 1 rfl) (Sp3.boxlt (D := RqD r) (S := S2) (x := s) 1 rfl) (by omega) o.a o.n).mono ?_, trivial⟩
    rintro U h3 ⟨RU, loU, Af⟩
    have f3 := Af.fr
    have RW3 : Row h3 W intE ((sl o.a).take o.n.toNat) := OW.row.fr fun b hb => f3.eq b (OW.lo b hb).2 fun hS => by
      have h1 := (OW.lo b hb).1
      have h2 := blt b hS
      omega
    rw [← A.sl] at RU
    refine ⟨(same16_ok RW3 RU (by have := D.few o.a; rw [List.length_take]; omega)).mono ?_, trivial⟩
    rintro _ _ ⟨⟨b, rfl, hb⟩, rfl⟩
    obtain rfl : b = true := hb.2 rfl
    obtain ⟨S5, Sp5⟩ := Sp3.call 1 rfl Af
    have A5 := A.woken ((sl o.a).take o.n.toNat)
    rw [A.sl o.a] at A5 Sp5
    exact ⟨rfl, fin (by decide) Sp5 A5⟩
  by_cases k2 : o.kind = 2
  · have hk4 : o.kind ≠ 4 := by omega
    simp (disch := omega) only [F38, J38_0, J38_2, J38_3, i, sh, sh2, shi, dec, hn, hg1, xc, c0, k2, c1]
    refine ⟨(cancel_ok D o.tid).mono ?_, trivial⟩
    rintro _ h2 ⟨rfl, col2, D2, fq⟩
    obtain ⟨S3, Sp3⟩ := Sep.wqs S1 0 rfl hcol D2 fq
    have Sp3 : Sep noF g0 h2 [Thing.wq q S3 _ _ _, RqBox r S2 s, Thing.cells x5 (opE.f o)] := Sp3
    have xc3 := Sp3.cell (a := x5) (vs := opE.f o) 2 rfl
    simp (disch := omega) only [i, sh, sh2, xc3, c1]
    refine ⟨trivial, (rcancel_ok (Sp3.at (T := RqBox r S2 s) 1 rfl) (Sp3.boxlt (D := RqD r) (S := S2) (x := s) 1 rfl) (by omega) o.tid).mono ?_, trivial⟩
    rintro _ h3 ⟨rfl, Af⟩
    obtain ⟨S5, Sp5⟩ := Sp3.call 1 rfl Af
    have e1 : decide (∃ p ∈ s, p.1 = o.tid) = (on o.tid).isSome := by
      rw [Bool.eq_iff_iff, decide_eq_true_eq, A.dom]
    have e2 := eql4 (on o.tid).isSome
    simp (disch := omega) only [i, sh, sh2, e1, e2]
    exact ⟨trivial, fin (by decide) Sp5 (A.cancel o.tid)⟩
  by_cases k3 : o.kind = 3
  · have hk4 : o.kind ≠ 4 := by omega
    simp (disch := omega) only [F38, J38_0, J38_2, J38_3, i, sh, sh2, shi, dec, hn, hg1, xc, c0, k3, c3, c4, c5]
    refine ⟨(move_ok D o.a o.b o.n).mono ?_, trivial⟩
    rintro _ h2 ⟨col2, rr, hr, rfl, D2, fq⟩
    obtain ⟨S3, Sp3⟩ := Sep.wqs S1 0 rfl hcol D2 fq
    have Sp3 : Sep noF g0 h2 [Thing.wq q S3 rr.1.on rr.1.sl n, RqBox r S2 s, Thing.cells x5 (opE.f o)] := Sp3
    have xc3 := Sp3.cell (a := x5) (vs := opE.f o) 2 rfl
    simp (disch := omega) only [i, sh, sh2, xc3, c3, c4, c5]
    refine ⟨trivial, trivial, trivial, (rmove_ok (Sp3.at (T := RqBox r S2 s) 1 rfl) (Sp3.boxlt (D := RqD r) (S := S2) (x := s) 1 rfl) (by omega) o.a o.b o.n).mono ?_, trivial⟩
    rintro _ h3 ⟨rfl, Af⟩
    obtain ⟨S5, Sp5⟩ := Sp3.call 1 rfl Af
    have key : rr.2 = (if o.a = o.b then 0 else (mvR (onS s) o.a o.b o.n s 0).2.2) ∧ AQ rr.1.on rr.1.sl (if o.a = o.b then s else moveS o.a o.b o.n s) := by
      rw [hr]
      by_cases hab : o.a = o.b
      · rw [if_pos hab, if_pos hab, if_pos hab]; exact ⟨rfl, A⟩
      · rw [if_neg hab, if_neg hab, if_neg hab]
        have := A.moved hab o.n
        exact ⟨this.2, this.1⟩
    have e2 := eql3 rr.2
    rw [← key.1]
    simp only [i] at e2
    simp (disch := omega) only [i, sh, sh2, e2]
    exact ⟨trivial, fin (by decide) Sp5 key.2⟩
  -- asked
  simp (disch := omega) only [F38, J38_0, J38_2, J38_3, J38_1, i, sh, sh2, shi, dec, hn, hg1, xc, c0]
  obtain ⟨_, ⟨V, rfl⟩, Sb⟩ := box_open B blt
  have xr := Sb.cell (a := r) (vs := [V]) 0 rfl
  have RV := Sb.row (E := seatE) (V := V) (l := s) 1 rfl
  have up : ∀ {h : LHeap}, Fr noF g1 h → h.get r = some (.cells [V] .ex) ∧ Row h V seatE s ∧ WQ h q col on sl n ∧ h.get x5 = some (.cells (opE.f o) .ex) := fun {h} f =>
    ⟨(Sb.pure f).cell (a := r) (vs := [V]) 0 rfl, (Sb.pure f).row (E := seatE) (V := V) (l := s) 1 rfl, D.up f fun _ h => h.elim, (S1.pure f).cell (a := x5) (vs := opE.f o) 2 rfl⟩
  refine (rall_ok xr RV (by omega)).mono ?_
  rintro U1 h2 ⟨al, ra, SU1⟩
  have hal : al.length = n := D.cnt ra.nd (A.rise ra)
  have RU1 := SU1.row (E := intE) (V := U1) (l := al) 0 rfl
  have ltU1 : ∀ b, U1.obj = some b → b < h2.next := fun b hb => SU1.lt (T := Thing.vec intE U1 al) 0 rfl hb
  have f2 := SU1.fr
  obtain ⟨x2, RV2, D2, xc2⟩ := up f2
  simp (disch := omega) only [i, sh, sh2, xc2, c3]
  refine ⟨(sleepers_ok D2 o.a).mono ?_, trivial⟩
  rintro W3 h3 ⟨O3, _, f3⟩
  have f13 := f2.trans f3
  obtain ⟨x3, RV3, D3, xc3⟩ := up f13
  simp (disch := omega) only [i, sh, sh2, xc3, c3]
  refine ⟨trivial, (rsl_ok x3 RV3 (by omega) o.a).mono ?_, trivial⟩
  intro W4 h4 S4
  have f14 := f13.trans S4.fr
  have R4 := S4.row (E := intE) (V := W4) (l := slS s o.a) 0 rfl
  rw [← A.sl] at R4
  have R3 : Row h4 W3 intE (sl o.a) := O3.row.fr fun b hb => S4.fr.eq b (O3.lo b hb).2 id
  refine ⟨(same16_ok R3 R4 (by have := D.few o.a; omega)).mono ?_, trivial⟩
  rintro _ _ ⟨⟨b, rfl, hb⟩, rfl⟩
  obtain rfl : b = true := hb.2 rfl
  obtain ⟨x4, RV4, D4, xc4⟩ := up f14
  simp (disch := omega) only [i, sh, sh2, xc4, c1]
  refine ⟨(on_ok D4 o.tid).mono ?_, trivial⟩
  rintro W5 h5 ⟨O5, _, f5⟩
  have f15 := f14.trans f5
  obtain ⟨x5', RV5, D5, xc5⟩ := up f15
  simp (disch := omega) only [i, sh, sh2, xc5, c1]
  refine ⟨trivial, (ron_ok x5' RV5 (by omega) o.tid).mono ?_, trivial⟩
  intro W6 h6 S6
  have f16 := f15.trans S6.fr
  have R6 := S6.row (E := chanE) (V := W6) (l := onS s o.tid) 0 rfl
  rw [A.onS] at R6
  have R5 : Row h6 W5 chanE ((on o.tid).getD []) := O5.row.fr fun b hb => S6.fr.eq b (O5.lo b hb).2 id
  refine ⟨(same67_ok R5 R6 (by
    cases h : on o.tid with
    | none => simp
    | some l => have := (A.le _ _ h).1; simp only [Option.getD_some]; omega)).mono ?_, trivial⟩
  rintro _ _ ⟨⟨b, rfl, hb⟩, rfl⟩
  obtain rfl : b = true := hb.2 rfl
  obtain ⟨x6, RV6, D6, xc6⟩ := up f16
  simp (disch := omega) only [i, sh, sh2]
  refine ⟨(all_ok D6).mono ?_, trivial⟩
  rintro W7 h7 ⟨out, o1, o2, o3, R7, _, _, lo7, f7⟩
  have f17 := f16.trans f7
  have e7 : out = al := rise_eq o1 ra.up fun t => by rw [o2, ← A.rise ra]
  subst e7
  have RU7 : Row h7 U1 intE out := RU1.fr fun b hb => ((f3.trans S4.fr).trans (f5.trans (S6.fr.trans f7))).eq b (ltU1 b hb) id
  refine ⟨(same16_ok R7 RU7 (by omega)).mono ?_, trivial⟩
  rintro _ _ ⟨⟨b, rfl, hb⟩, rfl⟩
  obtain rfl : b = true := hb.2 rfl
  obtain ⟨x7, RV7, D7, xc7⟩ := up f17
  have hlU := fun g' => RU7.len (P := Try.prog) ty24 (g' := g')
  simp (disch := omega) only [i, sh, sh2, hlU]
  refine ⟨(len_ok D7).mono ?_, trivial⟩
  rintro _ _ ⟨rfl, rfl⟩
  have e3 := eql3 (n : Int)
  rw [o3]
  simp only [i] at e3
  simp (disch := omega) only [i, sh, sh2, e3]
  exact ⟨trivial, fun _ => fg.trans f17, S, S2, on, sl, n, s, (S1.init (Ts := both q r S S2 on sl n s)).pure f17, A⟩
end
end Go.Proofs.Ytgncgokjbakdmaa
