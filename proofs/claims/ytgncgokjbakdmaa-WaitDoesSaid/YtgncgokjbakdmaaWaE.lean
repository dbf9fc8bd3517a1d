/-
  parapetlaw12.WaitOnce returns true: the law.
-/
import Derived.Test.YtgncgokjbakdmaaWaD
set_option linter.all false
namespace Go.Proofs.Ytgncgokjbakdmaa
open Go.ChangeShapes Go.WideShapes Go.ChangeAt Go.RowKit Go.Lm
set_option linter.unusedSimpArgs false
set_option maxRecDepth 10000
section
variable {g h h' : LHeap} {q m2 n : Nat} {on : Int → Option (List Chan)} {sl : Chan → List Int}
theorem mvAll_dom (a b : Chan) (k : Int) : ∀ (ts : List Int) (S : QS) (m : Int), (∀ t ∈ ts, (S.on t).isSome = true) → ∀ x, ((mvAll a b k ts S m).1.on x).isSome = (S.on x).isSome
  | [], _, _, _, _ => rfl
  | t :: ts, S, m, h, x => by
    simp only [mvAll]
    split
    · rfl
    · split
      · exact mvAll_dom a b k ts S m (fun t' ht' => h t' (List.mem_cons_of_mem _ ht')) x
      · have hd : ∀ y, ((mv1 a b S t).on y).isSome = (S.on y).isSome := fun y => by
          show (upd S.on t _ y).isSome = _
          by_cases e : y = t
          · subst e; rw [upd_at, h y (List.mem_cons_self ..)]; rfl
          · rw [upd_ne _ _ e]
        rw [mvAll_dom a b k ts _ _ (fun t' ht' => by rw [hd]; exact h t' (List.mem_cons_of_mem _ ht')) x, hd]
theorem ty54 : Try.prog.underlying 54 = some (.map 3 4) := by kernel_rfl
theorem zr4 : zeroL Try.prog 4 = some (.bool false) := by kernel_rfl
noncomputable def mpOf (on : Int → Option (List Chan)) : Int → Option LV := fun t => if (on t).isSome = true then some (.bool true) else none
theorem mpOf_some {on : Int → Option (List Chan)} {t : Int} {b : Bool} (h : (on t).isSome = b) : mpOf on t = if b then some (.bool true) else none := by unfold mpOf; rw [h]
theorem mpOf_eq {on on' : Int → Option (List Chan)} (h : ∀ t, (on' t).isSome = (on t).isSome) : mpOf on' = mpOf on := by funext t; unfold mpOf; rw [h]
def OnceI (g h : LHeap) (q m2 : Nat) : Prop := ∃ S on sl n, Lm.Sep noF g h [Thing.wq q S on sl n, Thing.map m2 intK.k (mpOf on) n]
theorem once_tail {S : Nat → Prop} (Sp : Lm.Sep noF g h [Thing.wq q S on sl n, Thing.map m2 intK.k (mpOf on) n]) {x21 x22 : LV} {j : Nat} {N : LV → LHeap → Prop} {K : LV → LHeap → Prop} (hj : j < 9223372036854775807) (hN : ∀ h, OnceI g h q m2 → N (i ((j : Int) + 1)) h) :
    J5_14 (.ptr q 0) (.map m2) x21 x22 (i (j : Int)) h N K := by
  obtain ⟨col, hcol, D⟩ := Sep.wq Sp 0 rfl
  simp only [J5_14]
  refine (len_ok D).mono ?_
  rintro _ h ⟨rfl, rfl⟩
  have hl := MapIs.len (P := Try.prog) (Sp.at (T := Thing.map m2 intK.k (mpOf on) n) 1 rfl) ty54
  have e0 : (!((n : Int) == (n : Int))) = false := by simp
  simp (disch := omega) only [J5_12, i, sh, sh2, b_len, hl, binL_neq_int, e0, shi, dec]
  exact hN _ ⟨S, on, sl, n, Sp⟩
theorem min_i (a b : Int) (h : LHeap) : builtinL Try.prog .min [3, 3] [i a, i b] h = some (i (if b < a then b else a), h) := rfl
theorem max_i (a b : Int) (h : LHeap) : builtinL Try.prog .max [3, 3] [i a, i b] h = some (i (if a < b then b else a), h) := rfl
theorem get_some_lookup {mp : Int → Option LV} (M : MapIs h m2 intK.k mp n) (t : Int) : lookupL Try.prog 54 (.map m2) (.int .i64 t) false h = some ((mp t).getD (.bool false)) := by
  have := M.lookup (P := Try.prog) intK ty54 zr4 t false
  have e : intK.k t = .int .i64 t := rfl
  rw [e] at this
  rw [this]
  cases mp t <;> rfl
theorem upd_mpOf (on : Int → Option (List Chan)) (t : Int) (l : List Chan) : upd (mpOf on) t (some (.bool true)) = mpOf (upd on t (some l)) := by
  funext x
  unfold mpOf
  by_cases e : x = t
  · subst e; rw [upd_at, upd_at]; rfl
  · rw [upd_ne _ _ e, upd_ne _ _ e]
theorem upd_mpOf_none (on : Int → Option (List Chan)) (t : Int) : upd (mpOf on) t none = mpOf (upd on t none) := by
  funext x
  unfold mpOf
  by_cases e : x = t
  · subst e; rw [upd_at, upd_at]; rfl
  · rw [upd_ne _ _ e, upd_ne _ _ e]
set_option maxHeartbeats 4000000 in
theorem once_any {V : LV} {ops : List OpX} (R : Row g V opE ops) (hl : ops.length < 9223372036854775807) (hT : ∀ o ∈ ops, ∃ l, Row g o.L chanE l ∧ Capd o.L 3 ∧ l.length < 9223372036854775808) : Ok Try.prog 5 [V] g fun v _ => v = .bool true := by
  refine ok5 fun wf _ => ?_
  simp only [F5, J5_0]
  refine new_ok.mono ?_
  rintro _ h1 ⟨q, col, rfl, D, f1, nw⟩
  obtain ⟨S1, Sp1⟩ := Sep.wqnew (Lm.Sep.start noF g) D f1 nw
  simp only [J5_1]
  refine awake_pure.to ?_
  have n1 := (nil_p (P := Try.prog) ty25 true).1
  have hlen := fun g' => R.len (P := Try.prog) ty53 (g' := g')
  simp (disch := omega) only [i, sh, sh2, n1, J5_2, J5_3, b_len, hlen, J5_8]
  have Sp2 := Sp1.newMap intK.k
  have Sp2 : Lm.Sep noF g (h1.alloc (.map [] 0 .ex)) [Thing.wq q S1 (fun _ => none) (fun _ => []) 0, Thing.map h1.next intK.k (mpOf fun _ => none) 0] := by
    have e : (fun _ => none : Int → Option LV) = mpOf fun _ => none := by funext t; simp [mpOf]
    rw [← e]; exact Sp2
  generalize hm2 : h1.next = m2 at *
  have h2m : g.next ≤ m2 := by rw [← hm2]; exact f1.le
  refine loop_n (fun n s h => ∃ (j : Nat), s = i (j : Int) ∧ j + n = ops.length ∧ OnceI g h q m2) (n := ops.length) ⟨0, rfl, by omega, S1, _, _, _, Sp2⟩ ?_
  rintro n s h ⟨j, rfl, hj, S, on, sl, cnt, Sp⟩
  cases n with
  | zero =>
    -- the end
    obtain ⟨col, hcol, D⟩ := Sep.wq Sp 0 rfl
    simp (disch := omega) only [L5_9, J5_10, J5_4, i, sh, sh2, shi, dec]
    refine (all_ok D).mono ?_
    rintro W h3 ⟨out, _, o2, o3, o4, _, _, _, f3⟩
    have Sp3 := Sp.pure f3
    have hlW := fun g' => o4.len (P := Try.prog) ty24 (g' := g')
    have e1 : intE.e = 1 := rfl
    obtain ⟨_, _, _, _, _, Dd⟩ := D
    have h64 := Dd.most
    simp (disch := omega) only [i, sh, sh2, b_len, hlW, J5_6]
    refine loop_n (fun n s h => ∃ (j : Nat), s = i (j : Int) ∧ j + n = out.length ∧ h = h3) (n := out.length) ⟨0, rfl, by omega, rfl⟩ ?_
    rintro n s h3 ⟨j, rfl, hj, rfl⟩
    cases n with
    | succ n =>
      obtain ⟨t, ht, hd⟩ := drop_at (l := out) (k := j) (by omega)
      have ix := o4.ix (k := .i64) (i := j) (by omega)
      have ld := o4.ld1 ht rfl rfl
      rw [e1] at ix
      have hlk := get_some_lookup (Sp3.at (T := Thing.map m2 intK.k (mpOf on) cnt) 1 rfl) t
      rw [mpOf_some ((o2 t).1 (List.mem_of_getElem? ht))] at hlk
      simp only [if_true, Option.getD_some] at hlk
      simp (disch := omega) only [L5_7, i, sh, sh2, shi, dec, ix, ld, hlk]
      exact ⟨n, by omega, j + 1, by simp, by omega, trivial⟩
    | zero =>
      obtain ⟨col3, hcol3, D3⟩ := Sep.wq Sp3 0 rfl
      simp (disch := omega) only [L5_7, J5_5, i, sh, sh2, shi, dec]
      refine (all_ok D3).mono ?_
      rintro W4 h4 ⟨out4, _, _, p3, p4, _, _, _, f4⟩
      have Sp4 := Sp3.pure f4
      have hlW4 := fun g' => p4.len (P := Try.prog) ty24 (g' := g')
      have hl2 := MapIs.len (P := Try.prog) (Sp4.at (T := Thing.map m2 intK.k (mpOf on) cnt) 1 rfl) ty54
      rw [p3] at hlW4
      have e0 : ((cnt : Int) == (cnt : Int)) = true := by simp
      simp (disch := omega) only [i, sh, sh2, b_len, hlW4, hl2, binL_eql_int, e0]
  | succ n =>
    obtain ⟨o, ho, hd⟩ := drop_at (l := ops) (k := j) (by omega)
    obtain ⟨l, RL, cL, hlL⟩ := hT o (List.mem_of_getElem? ho)
    have Rh := R.old wf Sp.fr
    have ix := Rh.ix (k := .i64) (i := j) (by omega)
    have ld := Rh.ld ho
    have e10 : opE.e = 10 := rfl
    rw [e10] at ix ld
    obtain ⟨N, w1, w2⟩ := new_st10 h o
    obtain ⟨c0, c1, c2, c3, c4, c5⟩ := op_c o RL.cell
    have Spc := Sp.temp (.cells (opE.f o) .ex)
    have xc : (h.alloc (.cells (opE.f o) .ex)).get h.next = some (.cells (opE.f o) .ex) := get_alloc_eq _ _
    have fin : ∀ {h' : LHeap} {S : Nat → Prop} {on : Int → Option (List Chan)} {sl : Chan → List Int} {c : Nat} {x21 x22 : LV}, Lm.Sep noF g h' [Thing.wq q S on sl c, Thing.map m2 intK.k (mpOf on) c] →
        J5_14 (.ptr q 0) (.map m2) x21 x22 (i (j : Int)) h' (fun s' g' => ∃ m, m < n + 1 ∧ ∃ j : Nat, s' = i (j : Int) ∧ j + m = ops.length ∧ OnceI g g' q m2) fun v _ => v = .bool true := fun Sx =>
      once_tail Sx (by omega) fun h'' hO => ⟨n, by omega, j + 1, by simp, by omega, hO⟩
    simp only [i] at fin
    simp (disch := omega) only [L5_9, J5_10, J5_11, J5_13, J5_15, i, sh, sh2, shi, dec, ix, ld, shc, w1, w2, xc, c0]
    obtain ⟨col, hcol, D⟩ := Sep.wq Spc 0 rfl
    generalize hhc : h.alloc (.cells (opE.f o) .ex) = hc at *
    have wfree : ∀ a, o.L.obj = some a → col a = none := fun a ha => Classical.byContradiction fun hn => by
      have h1 := (Spc.lo (Thing.wq q S on sl cnt) (by simp) a ((hcol a).2 hn)).1
      rcases h1 with h1 | h1
      · exact h1
      · obtain ⟨pa, off, _, hf⟩ := R.fl ho
        have h6 := hf 2 _ rfl
        rw [if_pos RL.cell] at h6
        cases hg : g.get pa with
        | none => rw [hg] at h6; cases h6
        | some ob =>
          rw [hg] at h6
          cases ob with
          | cells vs own =>
            have := wf.cells pa vs own hg o.L (List.mem_of_getElem? h6) a ha
            omega
          | _ => cases h6
    have ic0 : hc.get h.next = some (.cells (opE.f o) .ex) := xc
    have cc : col h.next = none := Classical.byContradiction fun hn => by
      have h9 := Sp.lt (T := Thing.wq q S on sl cnt) 0 rfl (a := h.next) ((hcol h.next).2 hn)
      omega
    have hnx : h.next < hc.next := by rw [← hhc]; exact Nat.lt_succ_self _
    have h2h : m2 < h.next := Sp.lt (T := Thing.map m2 intK.k (mpOf on) cnt) 1 rfl rfl
    have keepc : ∀ {h'' : LHeap} {col' : Nat → Option Tag}, FrQ hc col h'' col' → h''.get h.next = some (.cells (opE.f o) .ex) := fun f => ((f.eq _ hnx cc).1).trans ic0
    by_cases k0 : o.kind = 0
    · simp (disch := omega) only [J5_16, i, sh, sh2, shi, dec, k0, ic0, c1, c2]
      refine (sleep_ok D o.tid (RL.old wf Spc.fr) cL hlL wfree).mono ?_
      rintro _ h3 ⟨rfl, col3, fq, hD⟩
      have x3 := keepc fq
      by_cases hs : sleepN on cnt o.tid l = 0
      · rw [if_pos hs] at hD
        obtain ⟨S3, Sp3⟩ := Sep.wqs Spc 0 rfl hcol hD fq
        have Sp3 : Lm.Sep noF g h3 [Thing.wq q S3 (upd on o.tid (some l)) (fun c => if c ∈ l then sl c ++ [o.tid] else sl c) (cnt + 1), Thing.map m2 intK.k (mpOf on) cnt] := Sp3
        have hon : (on o.tid).isSome = false := by
          unfold sleepN at hs
          split at hs
          · cases hs
          · split at hs
            · cases hs
            · rename_i h; simpa using h
        have hlk := get_some_lookup (Sp3.at (T := Thing.map m2 intK.k (mpOf on) cnt) 1 rfl) o.tid
        rw [mpOf_some hon] at hlk
        simp only [Bool.false_eq_true, if_false, Option.getD_none] at hlk
        obtain ⟨H, e, Sp4, f4⟩ := Sp3.mset (P := Try.prog) (m := m2) (mp := mpOf on) (n := cnt) intK 1 rfl ty54 o.tid (.bool true)
        have e : mapSetL Try.prog 54 (.map m2) (.int .i64 o.tid) (.bool true) h3 = some H := e
        rw [upd_mpOf on o.tid l, mpOf_some hon] at Sp4
        rw [hs]
        simp (disch := omega) only [i, sh, sh2, shi, dec, x3, c1, hlk, e]
        exact fin Sp4
      · rw [if_neg hs] at hD
        obtain ⟨S3, Sp3⟩ := Sep.wqs Spc 0 rfl hcol hD fq
        have hne : (sleepN on cnt o.tid l == 0) = false := by simpa using hs
        simp (disch := omega) only [i, sh, sh2, binL_eql_int, hne]
        exact fin Sp3
    by_cases k1 : o.kind = 1
    · simp (disch := omega) only [J5_16, J5_17, i, sh, sh2, shi, dec, k1, ic0, c3]
      refine (sleepers_ok D o.a).mono ?_
      rintro W h3 ⟨OW, _, f3⟩
      have D3 := D.up f3 fun _ h => h.elim
      have Sp3 := Spc.pure f3
      have hlW := fun g' => OW.row.len (P := Try.prog) ty24 (g' := g')
      have x3 : h3.get h.next = some (.cells (opE.f o) .ex) := (f3.eq _ hnx id).trans ic0
      simp (disch := omega) only [J5_18, i, sh, sh2, b_len, hlW, x3, c3, c5]
      refine (wake_ok D3 o.a o.n).mono ?_
      rintro V4 h4 ⟨O4, col4, D4, fq4, v4⟩
      have nd := D.nod o.a
      have hmem := D.mem o.a
      have hfew := D.few o.a
      have ltlen : ((sl o.a).take o.n.toNat).length = min o.n.toNat (sl o.a).length := List.length_take
      have hsub : ∀ t ∈ (sl o.a).take o.n.toNat, (on t).isSome = true := fun t ht => by
        obtain ⟨l', h1, _⟩ := hmem t (List.mem_of_mem_take ht)
        rw [h1]; rfl
      have hndw : ((sl o.a).take o.n.toNat).Nodup := nd.sublist (List.take_sublist _ _)
      have hcl := hcol
      obtain ⟨S4, Sp4⟩ := Sep.wqs Sp3 0 rfl hcol D4 fq4
      have Sp4 : Lm.Sep noF g h4 [Thing.wq q S4 (fun t => if t ∈ (sl o.a).take o.n.toNat then none else on t) (fun c' => (sl c').filter fun t => !decide (t ∈ (sl o.a).take o.n.toNat)) (cnt - ((sl o.a).take o.n.toNat).length), Thing.map m2 intK.k (mpOf on) cnt] := Sp4
      have x4 : h4.get h.next = some (.cells (opE.f o) .ex) := ((fq4.eq _ (Nat.lt_of_lt_of_le hnx f3.le) cc).1).trans x3
      have hl4 := fun g' => O4.row.len (P := Try.prog) ty24 (g' := g')
      have hmm : ((((sl o.a).take o.n.toNat).length : Int) = if (0 : Int) < (if o.n < ((sl o.a).length : Int) then o.n else ((sl o.a).length : Int)) then (if o.n < ((sl o.a).length : Int) then o.n else ((sl o.a).length : Int)) else 0) := by
        rw [ltlen]
        split <;> split at * <;> omega
      have e0 : (!((((sl o.a).take o.n.toNat).length : Int) == (if (0 : Int) < (if o.n < ((sl o.a).length : Int) then o.n else ((sl o.a).length : Int)) then (if o.n < ((sl o.a).length : Int) then o.n else ((sl o.a).length : Int)) else 0))) = false := by
        rw [← hmm]; simp
      have mn := min_i ((sl o.a).length : Int) o.n h4
      have mx := max_i 0 (if o.n < ((sl o.a).length : Int) then o.n else ((sl o.a).length : Int)) h4
      simp only [i] at mn mx
      simp (disch := omega) only [J5_19, J5_20, J5_21, i, sh, sh2, b_len, hl4, x4, c5, mn, mx, binL_neq_int, e0]
      generalize hw : (sl o.a).take o.n.toNat = w at *
      have e1 : intE.e = 1 := rfl
      have hw64 : w.length ≤ 64 := by omega
      have hwc : w.length ≤ cnt := MapIs.few (Sp3.at (T := Thing.map m2 intK.k (mpOf on) cnt) 1 rfl) hndw fun t ht => by rw [mpOf_some (hsub t ht)]; simp
      refine loop_n (fun n s h => ∃ (jj : Nat), s = i (jj : Int) ∧ jj + n = w.length ∧ Fr (fun a => a = m2) h4 h ∧ Lm.Sep noF g h [Thing.wq q S4 (fun t => if t ∈ w then none else on t) (fun c' => (sl c').filter fun t => !decide (t ∈ w)) (cnt - w.length), Thing.map m2 intK.k (mpOf fun t => if t ∈ w.take jj then none else on t) (cnt - jj)]) (n := w.length)
        ⟨0, rfl, by omega, Fr.refl _ _, by simpa using Sp4⟩ ?_
      rintro n' s h5 ⟨jj, rfl, hjj, f5, Sp5⟩
      cases n' with
      | zero =>
        rw [List.take_of_length_le (by omega)] at Sp5
        obtain rfl : jj = w.length := by omega
        simp (disch := omega) only [L5_22, i, sh, sh2, shi, dec]
        exact fin Sp5
      | succ n' =>
        obtain ⟨t, ht, hdt⟩ := drop_at (l := w) (k := jj) (by omega)
        have R5 : Row h5 V4 intE w := O4.row.fr fun a ha => f5.eq a (O4.lo a ha).2 (by have := (O4.lo a ha).1; have := f3.le; omega)
        have ix5 := R5.ix (k := .i64) (i := jj) (by omega)
        have ld5 := R5.ld1 ht rfl rfl
        rw [e1] at ix5
        have hnt : t ∉ w.take jj := fun hin => by
          have := hndw
          rw [← List.take_append_drop jj w, hdt, List.nodup_append] at this
          exact this.2.2 _ hin _ (by simp) rfl
        have hont : ((if t ∈ w.take jj then none else on t)).isSome = true := by rw [if_neg hnt]; exact hsub t (List.mem_of_getElem? ht)
        have hlk := get_some_lookup (Sp5.at (T := Thing.map m2 intK.k (mpOf fun t => if t ∈ w.take jj then none else on t) (cnt - jj)) 1 rfl) t
        have hmp : mpOf (fun t => if t ∈ w.take jj then none else on t) t = some (.bool true) := by rw [mpOf_some (b := true) hont]; rfl
        rw [hmp] at hlk
        simp only [Option.getD_some] at hlk
        obtain ⟨H, e, Sp6, f6⟩ := Sp5.mdel (P := Try.prog) (m := m2) (mp := mpOf fun t => if t ∈ w.take jj then none else on t) (n := cnt - jj) intK 1 rfl ty54 t [3]
        have e : builtinL Try.prog .delete [54, 3] [.map m2, .int .i64 t] h5 = some (undefL, H) := e
        rw [hmp, upd_mpOf_none] at Sp6
        have heq : upd (fun t => if t ∈ w.take jj then none else on t) t none = fun t => if t ∈ w.take (jj + 1) then none else on t := by
          funext x
          rw [take_snoc ht]
          by_cases ex : x = t
          · subst ex; rw [upd_at, if_pos (by simp)]
          · rw [upd_ne _ _ ex]; simp [ex]
        rw [heq] at Sp6
        simp (disch := omega) only [L5_22, i, sh, sh2, shi, dec, ix5, ld5, hlk, e]
        exact ⟨n', by omega, jj + 1, by simp, by omega, f5.trans f6, Sp6⟩
    by_cases k2 : o.kind = 2
    · have hlk := get_some_lookup (Spc.at (T := Thing.map m2 intK.k (mpOf on) cnt) 1 rfl) o.tid
      have hgd : (mpOf on o.tid).getD (.bool false) = .bool (on o.tid).isSome := by
        cases hb : (on o.tid).isSome with
        | true => rw [mpOf_some hb]; rfl
        | false => rw [mpOf_some hb]; rfl
      rw [hgd] at hlk
      simp (disch := omega) only [J5_16, J5_17, i, sh, sh2, shi, dec, k2, ic0, c1, hlk]
      refine ⟨(cancel_ok D o.tid).mono ?_, trivial⟩
      rintro _ h3 ⟨rfl, col3, D3, fq⟩
      have x3 := keepc fq
      obtain ⟨S3, Sp3⟩ := Sep.wqs Spc 0 rfl hcol D3 fq
      have Sp3 : Lm.Sep noF g h3 [Thing.wq q S3 (upd on o.tid none) (fun c => (sl c).filter fun t => !(t == o.tid)) (if (on o.tid).isSome then cnt - 1 else cnt), Thing.map m2 intK.k (mpOf on) cnt] := Sp3
      have hlk3 := get_some_lookup (Sp3.at (T := Thing.map m2 intK.k (mpOf on) cnt) 1 rfl) o.tid
      rw [hgd] at hlk3
      obtain ⟨H, e, Sp4, f4⟩ := Sp3.mdel (P := Try.prog) (m := m2) (mp := mpOf on) (n := cnt) intK 1 rfl ty54 o.tid [3]
      have e : builtinL Try.prog .delete [54, 3] [.map m2, .int .i64 o.tid] h3 = some (undefL, H) := e
      rw [upd_mpOf_none] at Sp4
      have e0 : binL Try.prog .neq 4 false (.bool (on o.tid).isSome) (.bool (on o.tid).isSome) = some (.bool false) := by cases (on o.tid).isSome <;> kernel_rfl
      simp (disch := omega) only [i, sh, sh2, shi, dec, x3, c1, hlk3, e0, e, true_and]
      cases hb : (on o.tid).isSome with
      | true => rw [mpOf_some hb, hb] at Sp4; exact fin (c := cnt - 1) Sp4
      | false => rw [mpOf_some hb, hb] at Sp4; exact fin (c := cnt) Sp4
    by_cases k3 : o.kind = 3
    · simp (disch := omega) only [J5_16, J5_17, i, sh, sh2, shi, dec, k3, ic0, c3, c4, c5]
      refine (move_ok D o.a o.b o.n).mono ?_
      rintro _ h3 ⟨col3, r, hr, rfl, D3, fq⟩
      have hdom : ∀ t, (r.1.on t).isSome = (on t).isSome := fun t => by
        rw [hr]
        split
        · rfl
        · exact mvAll_dom _ _ _ _ ⟨on, sl⟩ _ (fun t' ht' => by
            obtain ⟨l', h1, _⟩ := D.mem o.a t' ht'
            show (on t').isSome = true
            rw [h1]; rfl) t
      obtain ⟨S3, Sp3⟩ := Sep.wqs Spc 0 rfl hcol D3 fq
      have Sp3 : Lm.Sep noF g h3 [Thing.wq q S3 r.1.on r.1.sl cnt, Thing.map m2 intK.k (mpOf on) cnt] := Sp3
      rw [← mpOf_eq hdom] at Sp3
      exact fin Sp3
    · simp (disch := omega) only [J5_16, J5_17, i, sh, sh2, shi, dec]
      exact fin Spc
end
end Go.Proofs.Ytgncgokjbakdmaa
