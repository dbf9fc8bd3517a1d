/-
  waitq: Len, On, All; Move.
-/
import Derived.Test.YtgncgokjbakdmaaWaB
import Derived.Test.YtgncgokjbakdmaaWaA
set_option linter.all false
namespace Go.Proofs.Ytgncgokjbakdmaa
open Go.ChangeShapes Go.WideShapes Go.ChangeAt Go.RowKit Go.Lm
set_option linter.unusedSimpArgs false
set_option maxRecDepth 10000
section
variable {g g' : LHeap} {q n ms mo nS : Nat} {col : Nat → Option Tag} {on : Int → Option (List Chan)} {sl : Chan → List Int} {mpS : Chan → Option LV} {mpO : Int → Option LV}
theorem len_ok (D : WQ g q col on sl n) : Ok Try.prog 28 [.ptr q 0] g fun v h => v = i n ∧ h = g := by
  refine ok28 fun wf lt => ?_
  simp (disch := omega) only [F28, sh]
  refine (made_ok D).mono ?_
  rintro _ h ⟨rfl, rfl⟩
  obtain ⟨ms, mo, mpS, mpO, nS, D⟩ := D
  have x := D.at_
  have hl := D.mapO.len (P := Try.prog) ty80
  simp (disch := omega) only [i, sh, sh2, x, b_len, hl]
  exact ⟨trivial, trivial⟩
theorem on_ok (D : WQ g q col on sl n) (t : Int) : Ok Try.prog 39 [.ptr q 0, i t] g fun v h => Vec chanE g.next h v ((on t).getD []) ∧ Mine h v ∧ Fr noF g h := by
  refine ok39 fun wf lt => ?_
  simp (disch := omega) only [F39, sh]
  refine (made_ok D).mono ?_
  rintro _ h ⟨rfl, rfl⟩
  obtain ⟨ms, mo, mpS, mpO, nS, D⟩ := D
  have x := D.at_
  obtain ⟨V, _, hv, R, _, _, _, _, hle⟩ := D.onRow t
  simp (disch := omega) only [i, sh, sh2, x] at hv ⊢
  simp (disch := omega) only [hv, sh]
  exact clone42_ok R (by omega)
theorem all_ok (D : WQ g q col on sl n) : Ok Try.prog 29 [.ptr q 0] g fun v h => ∃ out, out.Pairwise (· < ·) ∧ (∀ t, t ∈ out ↔ (on t).isSome = true) ∧ out.length = n ∧ Row h v intE out ∧ Grow h v 1 ∧ Mine h v ∧ (∀ b, v.obj = some b → g.next ≤ b ∧ b < h.next) ∧ Fr noF g h := by
  refine ok29 fun wf lt => ?_
  simp (disch := omega) only [F29, sh]
  refine (made_ok D).mono ?_
  rintro _ h ⟨rfl, rfl⟩
  obtain ⟨ms, mo, mpS, mpO, nS, D⟩ := D
  have x := D.at_
  have hmo := D.lt mo (by rw [D.co]; simp)
  have hiso : ∀ t, (mpO t).isSome = (on t).isSome := fun t => by obtain ⟨V, _, _, _, _, _, _, h, _⟩ := D.onRow t; exact h
  simp (disch := omega) only [sh, sh2, x]
  refine keys_ok.mono ?_
  rintro _ h1 ⟨rfl, rfl⟩
  have M := D.mapO.fr (g' := h.alloc (.cells [.map mo] .ex)) (get_alloc_ne _ _ (by omega))
  have h64 := D.most
  refine (sortedKeys_ok (mp := mpO) (n := n) M (Nat.lt_succ_of_lt hmo) (get_alloc_eq _ _) (Nat.lt_succ_self _) (by omega) (by omega)).mono ?_
  rintro V h2 ⟨out, ⟨k1, k2⟩, k3, k4, k5, k6, k7, k8⟩
  exact ⟨out, k1, fun t => by rw [k2, hiso], k3, k4, k5, k6, fun b hb => ⟨Nat.le_of_succ_le (k7 b hb).1, (k7 b hb).2⟩, (Fr.alloc _ _).trans k8⟩

/-! ### Move -/
structure QS where
  on : Int → Option (List Chan)
  sl : Chan → List Int
noncomputable def mv1 (a b : Chan) (s : QS) (t : Int) : QS :=
  ⟨upd s.on t (some (((s.on t).getD []).set (idxOf ((s.on t).getD []) a).toNat b)), upd (upd s.sl a ((s.sl a).filter fun x => !(x == t))) b (s.sl b ++ [t])⟩
noncomputable def mvAll (a b : Chan) (n : Int) : List Int → QS → Int → QS × Int
  | [], s, m => (s, m)
  | t :: ts, s, m => if n ≤ m then (s, m) else if b ∈ (s.on t).getD [] then mvAll a b n ts s m else mvAll a b n ts (mv1 a b s t) (m + 1)
theorem idxOf_at {X : Type} [DecidableEq X] : ∀ (l : List X) (x : X), x ∈ l → ∃ k : Nat, idxOf l x = k ∧ l[k]? = some x
  | [], _, h => by cases h
  | y :: l, x, h => by
    by_cases e : x = y
    · subst e; exact ⟨0, by simp [idxOf], rfl⟩
    · obtain ⟨k, h1, h2⟩ := idxOf_at l x ((List.mem_cons.1 h).resolve_left e)
      exact ⟨k + 1, by simp only [idxOf, if_neg e, h1]; rw [if_neg (by omega)]; omega, by simpa using h2⟩
/-- One thread is moved. -/
theorem move1 {h : LHeap} (D : WQd h q col on sl n ms mo mpS mpO nS) {a b : Chan} (hab : a ≠ b) {t : Int} (ht : t ∈ sl a) (hb : b ∉ (on t).getD []) :
    ∃ l k V, on t = some l ∧ idxOf l a = (k : Nat) ∧ l[k]? = some a ∧ l.length ≤ 16 ∧ t ∉ sl b ∧ mpO t = some V ∧ a ∈ l := by
  obtain ⟨l, h1, h2⟩ := D.mem a t ht
  obtain ⟨k, e1, e2⟩ := idxOf_at l a h2
  rw [h1] at hb
  rcases D.ons t with ⟨_, h3⟩ | ⟨V, l', _, h3, h4, _⟩
  · rw [h1] at h3; cases h3
  · refine ⟨l, k, V, h1, e1, e2, D.short t l h1, fun hm => ?_, h3, h2⟩
    obtain ⟨l2, q1, q2⟩ := D.mem b t hm
    rw [h1] at q1; cases q1
    exact hb q2
theorem upd_id {A B : Type} [DecidableEq A] {f : A → B} {a : A} {b : B} (h : f a = b) : upd f a b = f := by
  funext x
  by_cases e : x = a
  · subst e; rw [upd_at, h]
  · rw [upd_ne _ _ e]
theorem chan_eta (c : Chan) : (LV.agg (chanE.f c)) = .agg [i c.1, i c.2.1, i c.2.2] := rfl
theorem chan_cell (c : Chan) : cellO (some 3) 0 (some (.cells (chanE.f c) .ex)) = some (.agg (chanE.f c)) := by
  rw [cells_o _ _ _ _ (by rw [chanE.len]; decide), List.drop_zero, List.take_of_length_le (by rw [chanE.len]; decide)]
theorem chan_eqD (x y : Chan) : binL Try.prog .eql 23 false (.agg (chanE.f x)) (.agg (chanE.f y)) = some (.bool (decide (x = y))) := by
  have h : binL Try.prog .eql 23 false (.agg (chanE.f x)) (.agg (chanE.f y)) = (eqL Try.prog 23 false (.agg (chanE.f x)) (.agg (chanE.f y))).map .bool := rfl
  rw [h, chan_eql]; rfl
set_option maxHeartbeats 2000000 in
theorem move_ok (D : WQ g q col on sl n) (a b : Chan) (k : Int) : Ok Try.prog 27 [.ptr q 0, .agg (chanE.f a), .agg (chanE.f b), i k] g fun v h => ∃ col' r, r = (if a = b then ((⟨on, sl⟩ : QS), (0 : Int)) else mvAll a b k (sl a) ⟨on, sl⟩ 0) ∧ v = i r.2 ∧ WQ h q col' r.1.on r.1.sl n ∧ FrQ g col h col' := by
  refine ok27 fun wf lt => ?_
  have hn1 : newL (.agg (chanE.f a)) g = some (.ptr g.next 0, g.alloc (.cells (chanE.f a) .ex)) := new_agg _ _ (chanE.cell a)
  have hn2 : newL (.agg (chanE.f b)) (g.alloc (.cells (chanE.f a) .ex)) = some (.ptr (g.next + 1) 0, (g.alloc (.cells (chanE.f a) .ex)).alloc (.cells (chanE.f b) .ex)) := new_agg _ _ (chanE.cell b)
  have p1 : ((g.alloc (.cells (chanE.f a) .ex)).alloc (.cells (chanE.f b) .ex)).get g.next = some (.cells (chanE.f a) .ex) := by rw [(Fr.alloc _ _).eq _ (by rw [LHeap.next_alloc]; omega) id, get_alloc_eq]
  have p2 : ((g.alloc (.cells (chanE.f a) .ex)).alloc (.cells (chanE.f b) .ex)).get (g.next + 1) = some (.cells (chanE.f b) .ex) := get_alloc_eq (g.alloc (.cells (chanE.f a) .ex)) _
  have f2 : Fr noF g ((g.alloc (.cells (chanE.f a) .ex)).alloc (.cells (chanE.f b) .ex)) := (Fr.alloc _ _).alloc' _
  have n2 : ((g.alloc (.cells (chanE.f a) .ex)).alloc (.cells (chanE.f b) .ex)).next = g.next + 2 := rfl
  simp (disch := omega) only [F27, J27_0, sh, sh2, hn1, hn2]
  generalize (g.alloc (.cells (chanE.f a) .ex)).alloc (.cells (chanE.f b) .ex) = g2 at *
  have D2 := D.up f2 fun _ h => h.elim
  simp (disch := omega) only [sh, sh2, p1, p2, chan_cell, chan_eqD]
  by_cases hab : a = b
  · rw [decide_eq_true hab]
    simp (disch := omega) only [sh]
    exact ⟨col, _, rfl, by rw [if_pos hab], by rw [if_pos hab]; exact D2, FrQ.of f2⟩
  rw [decide_eq_false hab]
  simp (disch := omega) only [sh, sh2, J27_1, J27_2, p1, chan_cell]
  refine (sleepers_ok D2 a).mono ?_
  rintro W h1 ⟨OW, mW, f1⟩
  have D1 := D2.up f1 fun _ h => h.elim
  have hfew := D2.few a
  have hnod := D2.nod a
  have hlW := OW.row.len (P := Try.prog) ty24
  obtain ⟨ms, mo, mpS, mpO, nS, D1⟩ := D1
  have hW0 : ∀ b, W.obj = some b → col b = none := fun b hb => Classical.byContradiction fun h => by have := D2.lt b h; have := (OW.lo b hb).1; omega
  have c1 : col g.next = none := Classical.byContradiction fun h => by have := D.lt _ h; omega
  have c2 : col (g.next + 1) = none := Classical.byContradiction fun h => by have := D.lt _ h; omega
  have p1' : h1.get g.next = some (.cells (chanE.f a) .ex) := (f1.eq _ (by omega) id).trans p1
  have p2' : h1.get (g.next + 1) = some (.cells (chanE.f b) .ex) := (f1.eq _ (by omega) id).trans p2
  have le1 := f1.le
  have fq1 : FrQ g col h1 col := FrQ.of (f2.trans f1)
  simp (disch := omega) only [i, sh, sh2, b_len, hlW, J27_4]
  generalize hts : sl a = ts at *
  have e1 : intE.e = 1 := rfl
  have e3 : chanE.e = 3 := rfl
  refine loop_n (fun n' s h => ∃ (j : Nat) (m : Int) (S : QS) (col' : Nat → Option Tag) (mpS' : Chan → Option LV) (mpO' : Int → Option LV) (nS' : Nat), s = (i m, i (j : Int)) ∧ j + n' = ts.length ∧ 0 ≤ m ∧ m ≤ j ∧ WQd h q col' S.on S.sl n ms mo mpS' mpO' nS' ∧ FrQ h1 col h col' ∧ mvAll a b k (ts.drop j) S m = mvAll a b k ts ⟨on, sl⟩ 0 ∧ ∀ t ∈ ts.drop j, t ∈ S.sl a) (n := ts.length)
    ⟨0, 0, ⟨on, sl⟩, col, mpS, mpO, nS, rfl, by omega, by omega, by omega, D1, FrQ.of (Fr.refl _ _), rfl, fun t ht => by show t ∈ sl a; rw [hts]; exact ht⟩ ?_
  rintro n' s h ⟨j, m, S, col', mpS', mpO', nS', rfl, hj, hm0, hmj, Dj, fq, hall, hin⟩
  have done : ∀ r, r = (S, m) → mvAll a b k ts ⟨on, sl⟩ 0 = r → ∃ col' r, r = (if a = b then ((⟨on, sl⟩ : QS), (0 : Int)) else mvAll a b k ts ⟨on, sl⟩ 0) ∧ i m = i r.2 ∧ WQ h q col' r.1.on r.1.sl n ∧ FrQ g col h col' := fun r e1 e2 => by
    subst e1
    exact ⟨col', (S, m), by rw [if_neg hab, e2], rfl, ⟨_, _, _, _, _, Dj⟩, fq1.trans fq⟩
  cases n' with
  | zero =>
    simp (disch := omega) only [L27_5, J27_3, i, sh, sh2, shi, dec]
    rw [List.drop_of_length_le (by omega)] at hall
    exact done _ rfl hall.symm
  | succ n' =>
    obtain ⟨t, ht, hd⟩ := drop_at (l := ts) (k := j) (by omega)
    rw [hd] at hall hin
    have RW : Row h W intE ts := OW.row.fr fun b hb => (fq.eq b (OW.lo b hb).2 (hW0 b hb)).1
    have ixW := RW.ix (k := .i64) (i := j) (by omega)
    have ldW := RW.ld1 ht rfl rfl
    rw [e1] at ixW
    by_cases hkm : k ≤ m
    · simp (disch := omega) only [L27_5, J27_3, i, sh, sh2, shi, dec, ixW, ldW]
      simp only [mvAll, if_pos hkm] at hall
      exact done _ rfl hall.symm
    simp only [mvAll, if_neg hkm] at hall
    have x := Dj.at_
    obtain ⟨V, _, hv, RV, mV, oV, eV, hio, hle⟩ := Dj.onRow t
    have hv : lookupL Try.prog 80 (.map mo) (.int .i64 t) false h = some V := hv
    have q2 : h.get (g.next + 1) = some (.cells (chanE.f b) .ex) := ((fq.eq _ (by omega) c2).1).trans p2'
    have q1 : h.get g.next = some (.cells (chanE.f a) .ex) := ((fq.eq _ (by omega) c1).1).trans p1'
    simp (disch := omega) only [L27_5, i, sh, sh2, shi, dec, ixW, ldW, x, hv, q2, chan_cell]
    refine ⟨(contains41_ok RV (by omega) b).mono ?_, trivial⟩
    rintro _ h2 ⟨rfl, g2'⟩
    have D3 := Dj.up g2' fun _ h => h.elim
    have le2 := g2'.le
    have fq2 := fq.trans (FrQ.of g2')
    by_cases hb : b ∈ (S.on t).getD []
    · rw [if_pos hb] at hall
      rw [decide_eq_true ((idxOf_mem _ _).2 hb)]
      simp (disch := omega) only [i, sh, sh2, shi, dec]
      exact ⟨n', by omega, j + 1, m, S, col', mpS', mpO', nS', by simp, by omega, hm0, by omega, D3, fq2, hall, fun t' ht' => hin t' (List.mem_cons_of_mem _ ht')⟩
    rw [if_neg hb] at hall
    rw [decide_eq_false fun h => hb ((idxOf_mem _ _).1 h)]
    have hlt : h1.next ≤ h.next := fq.le
    have q1' : h2.get g.next = some (.cells (chanE.f a) .ex) := (g2'.eq _ (by omega) id).trans q1
    have x2 := D3.at_
    simp (disch := omega) only [i, sh, sh2, shi, dec, q1', chan_cell]
    refine (leave_ok D3 t a).mono ?_
    rintro _ h3 ⟨rfl, col3, mpS3, nS3, D4, fq3⟩
    have fq3' := fq2.trans fq3
    obtain ⟨l, kk, V3, o1, o2, o3, o4, o5, o6, o7⟩ := move1 D3 hab (hin t (List.mem_cons_self ..)) hb
    have x3 := D4.at_
    obtain ⟨U, _, hu, RU, mU, oU, eU, _, _⟩ := D4.onRow t
    rw [o6] at eU
    have eU : U = V3 := eU
    subst eU
    rw [o1] at RU
    have RU : Row h3 U chanE l := RU
    have hu : lookupL Try.prog 80 (.map mo) (.int .i64 t) false h3 = some U := hu
    have r1 : h3.get g.next = some (.cells (chanE.f a) .ex) := ((fq3'.eq _ (by omega) c1).1).trans p1'
    have r2 : h3.get (g.next + 1) = some (.cells (chanE.f b) .ex) := ((fq3'.eq _ (by omega) c2).1).trans p2'
    have le3 := fq3.le
    simp (disch := omega) only [i, sh, sh2, shi, dec, x3, hu, r1, r2, chan_cell]
    refine ⟨(index50_ok RU (by omega) a).mono ?_, trivial⟩
    rintro _ h4 ⟨rfl, g4⟩
    have D5 := D4.up g4 fun _ h => h.elim
    have le4 := g4.le
    have x4 := D5.at_
    obtain ⟨U', _, hu', RU', mU', oU', eU', _, _⟩ := D5.onRow t
    rw [o6] at eU'
    have eU' : U' = U := eU'
    subst eU'
    rw [o1] at RU'
    have RU' : Row h4 U' chanE l := RU'
    have hu' : lookupL Try.prog 80 (.map mo) (.int .i64 t) false h4 = some U' := hu'
    have s2 : h4.get (g.next + 1) = some (.cells (chanE.f b) .ex) := (g4.eq _ (by omega) id).trans r2
    have hkl := (List.getElem?_eq_some_iff.1 o3).1
    have ixU := RU'.ix (k := .i64) (i := kk) hkl
    rw [e3] at ixU
    obtain ⟨aU, off, vs, own, w1, w2, w3, w4, w5, w6⟩ := RU'.sta mU' hkl b
    have w3' : storeV 3 (.ptr aU off) (.agg (chanE.f b)) h4 = some (h4.set aU (.cells (splice vs off (chanE.f b)) own)) := by
      have := store_agg' (E := chanE) aU off b h4
      rw [e3] at this
      rw [this, w3]
    rw [e3] at w1
    have hcU := oU' aU w2
    have fS : Fr (fun b => b = aU) h4 (h4.set aU (.cells (splice vs off (chanE.f b)) own)) := Fr.set _ rfl
    rw [← w1] at w3'
    rw [o2]
    simp (disch := omega) only [i, sh, sh2, shi, dec, x4, hu', s2, chan_cell, ixU, w3', true_and, and_true]
    generalize hH5 : h4.set aU (.cells (splice vs off (chanE.f b)) own) = h5 at *
    have n5 : h5.next = h4.next := by rw [← hH5]; rfl
    have hmoU : mo ≠ aU := fun e => by
      have := D5.co; rw [e, hcU] at this; cases this
    have hlset : l.set kk b ≠ [] := fun e => by
      have := congrArg List.length e
      rw [List.length_set, List.length_nil] at this
      omega
    have me5 : ∀ c, t ∈ (upd S.sl a ((S.sl a).filter fun x => !(x == t))) c → c ∈ l.set kk b := fun c hc => by
      by_cases e : c = a
      · subst e; rw [upd_at] at hc; simp at hc
      · rw [upd_ne _ _ e] at hc
        obtain ⟨l', q1, q2⟩ := D3.mem c t hc
        rw [o1] at q1; cases q1
        obtain ⟨jj, hjj⟩ := List.getElem?_of_mem q2
        refine List.mem_of_getElem? (i := jj) ?_
        rw [List.getElem?_set_ne, hjj]
        intro ee
        subst ee
        rw [o3] at hjj; cases hjj; exact e rfl
    obtain ⟨col6, D6, fq6⟩ := D5.putO (t := t) (V := U') (a := aU) (l := l.set kk b) (n' := n) (fS.mono fun _ _ h => .inr (by rw [h]; exact hcU))
      (by rw [upd_id o6]; exact D5.mapO.fr (fS.eq _ (D5.lt mo (by rw [D5.co]; simp)) hmoU)) hlset w2 (.inr hcU) w4 w6 me5 D5.most (by rw [List.length_set]; exact o4)
    rw [upd_id o6] at D6
    -- it comes to the other channel
    have x6 := D6.at_
    have fq6' := (fq3'.trans (FrQ.of g4)).trans fq6
    have le6 := fq6'.le
    have t2 : h5.get (g.next + 1) = some (.cells (chanE.f b) .ex) := ((fq6'.eq _ (by omega) c2).1).trans p2'
    have g7 : Fr noF h5 (h5.alloc (.cells [i t] .ex)) := Fr.alloc _ _
    have D7 := D6.up g7 fun _ h => h.elim
    have x7 := D7.at_
    obtain ⟨st, H6, e6, sl6, f6⟩ := D7.mapS.entry chanK ty79 zr24 b
    obtain ⟨VS, _, RS, GS, MS, oS, eS⟩ := D7.sleepRow b
    rw [← eS] at e6
    have bs := bs24_1 h5 t
    have e6 : mapEntryL Try.prog 79 (.map ms) (.agg (chanE.f b)) (h5.alloc (.cells [i t] .ex)) = some (.tuple [VS, .int .i64 (st : Nat)], H6) := e6
    have t7 : (h5.alloc (.cells [i t] .ex)).get (g.next + 1) = some (.cells (chanE.f b) .ex) := (g7.eq _ (by omega) id).trans t2
    have y4 : (h5.alloc (.cells [i t] .ex)).get h5.next = some (.cells [i t] .ex) := get_alloc_eq _ _
    have hms : ms < h5.next := D6.lt ms (by rw [D6.cs]; simp)
    have nB : (h5.alloc (.cells [i t] .ex)).next = h5.next + 1 := rfl
    generalize hB : h5.alloc (.cells [i t] .ex) = Bh at *
    have y4' : H6.get h5.next = some (.cells [i t] .ex) := (f6.eq _ (by omega) (by omega)).trans y4
    have oS2 : ∀ a, VS.obj = some a → a < Bh.next ∧ a ≠ ms := fun a ha => ⟨D7.lt a (by rw [oS a ha]; simp), fun e => by
      have := oS a ha
      rw [e, D7.cs] at this; cases this⟩
    have kS : ∀ a, VS.obj = some a → H6.get a = Bh.get a := fun a ha => f6.eq a (oS2 a ha).1 (oS2 a ha).2
    have hslb : (upd S.sl a ((S.sl a).filter fun x => !(x == t))) b = S.sl b := upd_ne _ _ (Ne.symm hab)
    rw [hslb] at RS
    have OS : Vec intE 0 H6 VS (S.sl b) := ⟨RS.fr kS, GS.fr kS, fun a ha => ⟨Nat.zero_le _, Nat.lt_of_lt_of_le (oS2 a ha).1 f6.le⟩⟩
    have hfew := D3.few b
    obtain ⟨V', H7, e7, O7, f7, n7, m7⟩ := OS.app' (bytes := 8) (U := .slice h5.next 0 1 (.ex 1)) (m := [t]) (Row.of y4' rfl rfl (Nat.le_refl 1)) (by simp only [List.length_singleton]; omega) (Nat.zero_le _)
    have e7 : appendL 1 8 VS (.slice h5.next 0 1 (.ex 1)) H6 = some (V', H7) := e7
    have ap := ap24 (V := VS) (U := .slice h5.next 0 1 (.ex 1)) rfl H6
    obtain ⟨H8, e8, hm8, f8⟩ := (sl6.fr (f7.eq ms (Nat.lt_of_lt_of_le (by omega) f6.le) fun h => (oS2 _ h).2 rfl)).store V'
    obtain ⟨a', ha'⟩ := Row.obj O7.row (by simp)
    have k8 : ∀ b, V'.obj = some b → H8.get b = H7.get b := fun b hb => f8.eq b (O7.lo b hb).2 (by
      rcases n7 b hb with h | h
      · exact (oS2 b h).2
      · have := f6.le; omega)
    have nd8 : (S.sl b ++ [t]).Nodup := by
      rw [List.nodup_append]
      exact ⟨D3.nod _, by simp, fun a ha b hb e => o5 (by rw [← List.mem_singleton.1 hb, ← e]; exact ha)⟩
    have me8 : ∀ t' ∈ S.sl b ++ [t], ∃ cs, upd S.on t (some (l.set kk b)) t' = some cs ∧ b ∈ cs := fun t' h => by
      rcases List.mem_append.1 h with h | h
      · exact D7.mem b t' (by rw [hslb]; exact h)
      · simp only [List.mem_singleton] at h; subst h
        exact ⟨_, upd_at _ _ _, List.mem_of_getElem? (i := kk) (by rw [List.getElem?_set_self hkl])⟩
    obtain ⟨col8, D8, fq8⟩ := D7.putS (c := b) (V := V') (a := a') (l := S.sl b ++ [t])
      (((f6.mono fun _ _ h => .inl h).trans' f7 fun b _ h => .inr (oS b h)).trans' f8 fun b _ h => .inl h) hm8 (by simp) ha'
      (by
        rcases n7 a' ha' with h | h
        · exact .inr (oS a' h)
        · exact .inl ⟨Nat.le_trans f6.le h, Nat.lt_of_lt_of_le (O7.lo a' ha').2 f8.le⟩)
      (O7.row.fr k8) (O7.grow.fr k8) ((m7 (by simp)).fr k8) nd8 me8
    simp (disch := omega) only [i, sh, sh2, shi, dec, x6, x7, t2, t7, chan_cell, bs, hB, e6, ap, e7, e8, true_and, and_true]
    have hmv : mv1 a b S t = ⟨upd S.on t (some (l.set kk b)), upd (upd S.sl a ((S.sl a).filter fun x => !(x == t))) b (S.sl b ++ [t])⟩ := by
      simp only [mv1, o1, Option.getD_some, o2, Int.toNat_natCast]
    refine ⟨n', by omega, j + 1, m + 1, mv1 a b S t, col8, _, _, _, by simp, by omega, by omega, by omega, by rw [hmv]; exact D8, (fq6'.trans (FrQ.of g7)).trans fq8, hall, fun t' ht' => ?_⟩
    rw [hmv]
    show t' ∈ upd (upd S.sl a ((S.sl a).filter fun x => !(x == t))) b (S.sl b ++ [t]) a
    rw [upd_ne _ _ hab, upd_at, List.mem_filter]
    refine ⟨hin t' (List.mem_cons_of_mem _ ht'), ?_⟩
    have : t' ≠ t := fun e => by
      subst e
      rw [← List.take_append_drop j ts, hd, List.nodup_append] at hnod
      exact (List.nodup_cons.1 hnod.2.1).1 ht'
    simpa using this
end
end Go.Proofs.Ytgncgokjbakdmaa
