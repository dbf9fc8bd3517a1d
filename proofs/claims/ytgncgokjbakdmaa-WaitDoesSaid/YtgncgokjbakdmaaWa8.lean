/-
  waitq: Sleep.
-/
import Derived.Test.YtgncgokjbakdmaaWa7
set_option linter.all false
namespace Go.Proofs.Ytgncgokjbakdmaa
open Go.ChangeShapes Go.WideShapes Go.ChangeAt Go.RowKit Go.Lm
set_option linter.unusedSimpArgs false
variable {g g' : LHeap} {q n ms mo nS : Nat} {col : Nat → Option Tag} {on : Int → Option (List Chan)} {sl : Chan → List Int} {mpS : Chan → Option LV} {mpO : Int → Option LV}
theorem sz23 : sizeL Try.prog 23 = some 3 := by kernel_rfl
/-- Sleep's answer. -/
def sleepN (on : Int → Option (List Chan)) (n : Nat) (tid : Int) (l : List Chan) : Int :=
  if tid < 1 ∨ l = [] ∨ 16 < l.length ∨ ¬ l.Nodup then 1 else if (on tid).isSome then 101 else if 64 ≤ n then 2 else 0
set_option maxRecDepth 4000 in
theorem sleep_ok (D : WQ g q col on sl n) (tid : Int) {L : LV} {l : List Chan} (R : Row g L chanE l) (hc : Capd L 3) (hb : l.length < 9223372036854775808) (ho : ∀ a, L.obj = some a → col a = none) :
    Ok Try.prog 14 [.ptr q 0, i tid, L] g fun v h => v = i (sleepN on n tid l) ∧
      ∃ col', FrQ g col h col' ∧ (if sleepN on n tid l = 0 then WQ h q col' (upd on tid (some l)) (fun c => if c ∈ l then sl c ++ [tid] else sl c) (n + 1) else WQ h q col' on sl n) := by
  refine ok14 fun wf lt => ?_
  have hl := R.len ty30
  have hLlt : ∀ a, L.obj = some a → l ≠ [] → a < g.next := fun a ha hne => by
    rcases R with ⟨h, _⟩ | ⟨a', off, cap, vs, own, rfl, hg, _⟩
    · exact absurd h hne
    · cases ha; exact wf.lt _ _ hg
  have bad : ∀ h k, Fr noF g h → sleepN on n tid l = k → k ≠ 0 → (i k = i (sleepN on n tid l) ∧
      ∃ col', FrQ g col h col' ∧ (if sleepN on n tid l = 0 then WQ h q col' (upd on tid (some l)) (fun c => if c ∈ l then sl c ++ [tid] else sl c) (n + 1) else WQ h q col' on sl n)) := by
    intro h k f e hk
    rw [e]
    exact ⟨rfl, col, FrQ.of f, by rw [if_neg hk]; exact D.up f fun _ h => h.elim⟩
  simp (disch := omega) only [F14, J14_0, sh]
  refine (made_ok D).mono ?_
  rintro _ _ ⟨rfl, rfl⟩
  by_cases h1 : tid < 1
  · simp (disch := omega) only [J14_1, i, sh, sh2, shs, shc, shi, dec, b_len, hl]
    exact bad _ 1 (Fr.refl _ _) (by unfold sleepN; rw [if_pos (.inl h1)]) (by decide)
  by_cases h2 : l.length = 0
  · simp (disch := omega) only [J14_1, i, sh, sh2, shs, shc, shi, dec, b_len, hl]
    exact bad _ 1 (Fr.refl _ _) (by unfold sleepN; rw [if_pos (.inr (.inl (List.length_eq_zero_iff.1 h2)))]) (by decide)
  by_cases h3 : 16 < l.length
  · simp (disch := omega) only [J14_1, i, sh, sh2, shs, shc, shi, dec, b_len, hl]
    exact bad _ 1 (Fr.refl _ _) (by unfold sleepN; rw [if_pos (.inr (.inr (.inl h3)))]) (by decide)
  simp (disch := omega) only [J14_1, J14_2, J14_10, i, sh, sh2, shs, shc, shi, dec, b_len, hl]
  refine loop_n (fun n' s h => ∃ (k : Nat), s = i (k : Int) ∧ k + n' = l.length ∧ Fr noF _ h ∧ (l.take k).Nodup) (n := l.length) ⟨0, rfl, by omega, Fr.refl _ _, by simp⟩ ?_
  rintro n' s h ⟨k, rfl, hk, f, hnd⟩
  have R' := R.up wf f fun _ _ => id
  cases n' with
  | zero =>
    rw [List.take_of_length_le (by omega)] at hnd
    have c0 : ¬ (tid < 1 ∨ l = [] ∨ 16 < l.length ∨ ¬ l.Nodup) := by
      rintro (h | h | h | h)
      · exact h1 h
      · exact h2 (by rw [h]; rfl)
      · exact h3 h
      · exact h hnd
    have hN : sleepN on n tid l = if (on tid).isSome then 101 else if 64 ≤ n then 2 else 0 := by unfold sleepN; rw [if_neg c0]
    have D1 := D.up f fun _ h => h.elim
    obtain ⟨ms, mo, mpS, mpO, nS, D1⟩ := D1
    have x := D1.at_
    obtain ⟨V, hv, _, _, _, _, _, hio, _⟩ := D1.onRow tid
    have hlen : ∀ {h' : LHeap}, MapIs h' mo intK.k mpO n → lenL Try.prog 80 (.map mo) h' = some (.int .i64 n) := fun m => m.len ty80
    have hlen := hlen D1.mapO
    cases ht : (on tid).isSome with
    | true =>
      rw [ht] at hv
      simp (disch := omega) only [L14_11, J14_3, i, sh, sh2, shs, shc, shi, dec, x, hv]
      exact bad _ 101 f (by rw [hN, if_pos ht]) (by decide)
    | false =>
      rw [ht] at hv
      by_cases h64 : 64 ≤ n
      · simp (disch := omega) only [L14_11, J14_3, J14_4, i, sh, sh2, shs, shc, shi, dec, x, hv, b_len, hlen]
        exact bad _ 2 f (by rw [hN, if_neg (by rw [ht]; decide), if_pos h64]) (by decide)
      simp (disch := omega) only [L14_11, J14_3, J14_4, J14_5, i, sh, sh2, shs, shc, shi, dec, x, hv, b_len, hlen]
      refine (clone42_ok R' (by omega)).mono ?_
      rintro W h4 ⟨OW, miW, f4⟩
      have D4 := D1.up f4 fun _ h => h.elim
      have x := D4.at_
      have hon : on tid = none := by cases h : on tid with | none => rfl | some _ => rw [h] at ht; cases ht
      have hmp : mpO tid = none := by rw [ht] at hio; cases h : mpO tid with | none => rfl | some _ => rw [h] at hio; cases hio
      have hne : l ≠ [] := fun h => h2 (by rw [h]; rfl)
      obtain ⟨a, ha⟩ := Row.obj OW.row hne
      obtain ⟨H, e, hm, fm⟩ := D4.mapO.set intK ty80 tid W
      rw [hmp] at hm
      have e : mapSetL Try.prog 80 (.map mo) (.int .i64 tid) W h4 = some H := e
      have hmo : mo < h.next := D1.lt mo (by rw [D1.co]; simp)
      have hk' : ∀ b, W.obj = some b → H.get b = h4.get b := fun b hb => fm.eq b (OW.lo b hb).2 (by have := (OW.lo b hb).1; omega)
      obtain ⟨col', D5, fq⟩ := D1.putO (t := tid) (V := W) (a := a) (l := l) ((f4.mono fun _ _ h => h.elim).trans (fm.mono fun _ _ h => .inl h)) hm hne ha (.inl ⟨(OW.lo a ha).1, Nat.lt_of_lt_of_le (OW.lo a ha).2 fm.le⟩) (OW.row.fr hk') (miW.fr hk') (fun c hc => by
        obtain ⟨l', h1, _⟩ := D1.mem c tid hc
        rw [hon] at h1; cases h1) (by show n + 1 ≤ 64; omega) (by omega)
      replace D5 : WQd H q col' (upd on tid (some l)) sl (n + 1) ms mo mpS (upd mpO tid (some W)) nS := D5
      simp (disch := omega) only [i, sh, sh2, shs, shc, shi, dec, x, e, J14_6, J14_8, b_len, hl]
      have fq0 : FrQ _ col H col' := (FrQ.of f).trans fq
      refine loop_n (fun n' s h => ∃ (k : Nat) (col' : Nat → Option Tag) (sl' : Chan → List Int) (mpS' : Chan → Option LV) (nS' : Nat), s = i (k : Int) ∧ k + n' = l.length ∧ WQd h q col' (upd on tid (some l)) sl' (n + 1) ms mo mpS' (upd mpO tid (some W)) nS' ∧ FrQ _ col h col' ∧ ∀ c, sl' c = if c ∈ l.take k then sl c ++ [tid] else sl c) (n := l.length)
        ⟨0, col', sl, mpS, nS, rfl, by omega, D5, fq0, fun c => by simp⟩ ?_
      rintro n' s h5 ⟨k, col5, sl', mpS', nS', rfl, hk, D', fq, hs⟩
      cases n' with
      | zero =>
        rw [List.take_of_length_le (by omega)] at hs
        have h0 : sleepN on n tid l = 0 := by rw [hN, if_neg (by rw [ht]; decide), if_neg h64]
        obtain rfl : sl' = fun c => if c ∈ l then sl c ++ [tid] else sl c := funext hs
        simp (disch := omega) only [L14_9, J14_7, i, sh, sh2, shs, shc, shi, dec]
        exact ⟨by rw [h0], col5, fq, by rw [if_pos h0]; exact ⟨_, _, _, _, _, D'⟩⟩
      | succ n' =>
        have R5 : Row h5 L chanE l := R.fr fun a ha => (fq.eq a (hLlt a ha hne) (ho a ha)).1
        obtain ⟨⟨c1, c2, c3⟩, hc', hd⟩ := drop_at (l := l) (k := k) (by omega)
        have hix := R5.ix (k := .i64) (i := k) (by omega)
        have hld := R5.ld hc'
        have e3 : chanE.e = 3 := rfl
        rw [e3] at hix hld
        have hld : loadV (some 3) (L.at 3 k) h5 = some (.agg [i c1, i c2, i c3]) := hld
        have x := D'.at_
        have g1 : Fr noF h5 ((h5.alloc (.cells [i c1, i c2, i c3] .ex)).alloc (.cells [i tid] .ex)) := (Fr.alloc _ _).alloc' _
        have D6 := D'.up g1 fun _ h => h.elim
        have x6 := D6.at_
        obtain ⟨st, H6, e6, sl6, f6⟩ := D6.mapS.entry chanK ty79 zr24 (c1, c2, c3)
        obtain ⟨VS, _, RS, GS, MS, oS, eS⟩ := D6.sleepRow (c1, c2, c3)
        rw [← eS] at e6
        have bs := bs24_1 (h5.alloc (.cells [i c1, i c2, i c3] .ex)) tid
        have e6 : mapEntryL Try.prog 79 (.map ms) (.agg [i c1, i c2, i c3]) ((h5.alloc (.cells [i c1, i c2, i c3] .ex)).alloc (.cells [i tid] .ex)) = some (.tuple [VS, .int .i64 (st : Nat)], H6) := e6
        have g0 : Fr noF h5 (h5.alloc (.cells [i c1, i c2, i c3] .ex)) := Fr.alloc _ _
        have x5 := (D'.up g0 fun _ h => h.elim).at_
        have y3 : ((h5.alloc (.cells [i c1, i c2, i c3] .ex)).alloc (.cells [i tid] .ex)).get h5.next = some (.cells [i c1, i c2, i c3] .ex) := ((Fr.alloc _ _).eq _ (by rw [LHeap.next_alloc]; omega) id).trans (get_alloc_eq _ _)
        have y4 : ((h5.alloc (.cells [i c1, i c2, i c3] .ex)).alloc (.cells [i tid] .ex)).get (h5.alloc (.cells [i c1, i c2, i c3] .ex)).next = some (.cells [i tid] .ex) := get_alloc_eq _ _
        have y2 : (h5.alloc (.cells [i c1, i c2, i c3] .ex)).get h5.next = some (.cells [i c1, i c2, i c3] .ex) := get_alloc_eq _ _
        generalize hA : h5.alloc (.cells [i c1, i c2, i c3] .ex) = A at *
        have nA : A.next = h5.next + 1 := by subst hA; rfl
        have nB : (A.alloc (.cells [i tid] .ex)).next = A.next + 1 := rfl
        generalize hB : A.alloc (.cells [i tid] .ex) = Bh at *
        have hms : ms < h5.next := D'.lt ms (by rw [D'.cs]; simp)
        have y4' : H6.get A.next = some (.cells [i tid] .ex) := (f6.eq _ (by omega) (by omega)).trans y4
        have oS2 : ∀ a, VS.obj = some a → a < Bh.next ∧ a ≠ ms := fun a ha => ⟨D6.lt a (by rw [oS a ha]; simp), fun e => by
          have := oS a ha
          rw [e, D6.cs] at this; cases this⟩
        have kS : ∀ a, VS.obj = some a → H6.get a = Bh.get a := fun a ha => f6.eq a (oS2 a ha).1 (oS2 a ha).2
        have OS : Vec intE 0 H6 VS (sl' (c1, c2, c3)) := ⟨RS.fr kS, GS.fr kS, fun a ha => ⟨Nat.zero_le _, Nat.lt_of_lt_of_le (oS2 a ha).1 f6.le⟩⟩
        have hfew := D6.few (c1, c2, c3)
        obtain ⟨V', H7, e7, O7, f7, n7, m7⟩ := OS.app' (bytes := 8) (U := .slice A.next 0 1 (.ex 1)) (m := [tid]) (Row.of y4' rfl rfl (Nat.le_refl 1)) (by simp only [List.length_singleton]; omega) (Nat.zero_le _)
        have e7 : appendL 1 8 VS (.slice A.next 0 1 (.ex 1)) H6 = some (V', H7) := e7
        have ap := ap24 (V := VS) (U := .slice A.next 0 1 (.ex 1)) rfl H6
        obtain ⟨H8, e8, hm8, f8⟩ := (sl6.fr (f7.eq ms (Nat.lt_of_lt_of_le (by omega) f6.le) fun h => (oS2 _ h).2 rfl)).store V'
        obtain ⟨a', ha'⟩ := Row.obj O7.row (by simp)
        have k8 : ∀ b, V'.obj = some b → H8.get b = H7.get b := fun b hb => f8.eq b (O7.lo b hb).2 (by
          rcases n7 b hb with h | h
          · exact (oS2 b h).2
          · have := f6.le; omega)
        have hcn : (c1, c2, c3) ∉ l.take k := fun hin => by
          have := hnd
          rw [← List.take_append_drop k l, hd, List.nodup_append] at this
          exact this.2.2 _ hin _ (by simp) rfl
        have hslc : sl' (c1, c2, c3) = sl (c1, c2, c3) := by rw [hs, if_neg hcn]
        have hntid : tid ∉ sl' (c1, c2, c3) := fun h => by
          rw [hslc] at h
          obtain ⟨l', h1, _⟩ := D1.mem _ _ h
          rw [hon] at h1; cases h1
        have nd8 : (sl' (c1, c2, c3) ++ [tid]).Nodup := by
          rw [List.nodup_append]
          exact ⟨D6.nod _, by simp, fun a ha b hb e => hntid (by rw [← List.mem_singleton.1 hb, ← e]; exact ha)⟩
        have me8 : ∀ t ∈ sl' (c1, c2, c3) ++ [tid], ∃ cs, upd on tid (some l) t = some cs ∧ (c1, c2, c3) ∈ cs := fun t h => by
          rcases List.mem_append.1 h with h | h
          · exact D6.mem _ t h
          · simp only [List.mem_singleton] at h; subst h
            exact ⟨l, upd_at _ _ _, List.mem_of_getElem? hc'⟩
        obtain ⟨col8, D8, fq8⟩ := D6.putS (c := (c1, c2, c3)) (V := V') (a := a') (l := sl' (c1, c2, c3) ++ [tid])
          (((f6.mono fun _ _ h => .inl h).trans' f7 fun b _ h => .inr (oS b h)).trans' f8 fun b _ h => .inl h) hm8 (by simp) ha'
          (by
            rcases n7 a' ha' with h | h
            · exact .inr (oS a' h)
            · exact .inl ⟨Nat.le_trans f6.le h, Nat.lt_of_lt_of_le (O7.lo a' ha').2 f8.le⟩)
          (O7.row.fr k8) (O7.grow.fr k8) ((m7 (by simp)).fr k8) nd8 me8
        simp (disch := omega) only [L14_9, i, sh, sh2, shs, shc, shi, dec, hix, hld, chan_o, x, bs, hA, hB, x5, x6, y2, y3, e6, ap, e7, e8]
        refine ⟨n', by omega, k + 1, col8, _, _, _, rfl, by omega, D8, (fq.trans (FrQ.of g1)).trans fq8, fun c => ?_⟩
        rw [List.take_add_one, hc']
        by_cases ec : c = (c1, c2, c3)
        · subst ec
          rw [upd_at, if_pos (by simp), hslc]
        · rw [upd_ne _ _ ec, hs]
          simp [ec]
  | succ n' =>
    obtain ⟨⟨c1, c2, c3⟩, hc', hd⟩ := drop_at (l := l) (k := k) (by omega)
    have hix := R'.ix (k := .i64) (i := k) (by omega)
    have hld := R'.ld hc'
    have e3 : chanE.e = 3 := rfl
    rw [e3] at hix hld
    have hld : loadV (some 3) (L.at 3 k) h = some (.agg [i c1, i c2, i c3]) := hld
    have f1 : Fr noF h (h.alloc (.cells [i c1, i c2, i c3] .ex)) := Fr.alloc _ _
    obtain ⟨U, eU, RU, _, _, _⟩ := (R.up wf (f.alloc' (.cells [i c1, i c2, i c3] .ex)) fun _ _ => id).cut hc (i := 0) (j := k) (by omega) (by omega) none (some (k : Int)) rfl rfl
    rw [e3] at eU
    rw [List.drop_zero, Nat.sub_zero] at RU
    simp (disch := omega) only [L14_11, i, sh, sh2, shs, shc, shi, dec, hix, hld, chan_o, cut_t ty30 sz23 (show 3 ≠ 0 by decide), eU]
    refine (contains41_ok RU (by rw [List.length_take]; omega) (c1, c2, c3)).mono ?_
    rintro _ h2 ⟨rfl, f2⟩
    have hmem := idxOf_mem (l.take k) (c1, c2, c3)
    have htk : l.take (k + 1) = l.take k ++ [(c1, c2, c3)] := by rw [List.take_add_one, hc']; rfl
    by_cases hin : (c1, c2, c3) ∈ l.take k
    · simp (disch := omega) only [decide_eq_true (hmem.2 hin), sh, sh2, shi]
      refine bad _ 1 ((f.trans f1).trans f2) ?_ (by decide)
      have : ¬ l.Nodup := fun hn => by
        rw [← List.take_append_drop k l, hd, List.nodup_append] at hn
        exact hn.2.2 _ hin _ (by simp) rfl
      unfold sleepN
      rw [if_pos (.inr (.inr (.inr this)))]
    · simp (disch := omega) only [decide_eq_false (fun h => hin (hmem.1 h)), sh, sh2, shs, shi, dec]
      refine ⟨n', by omega, k + 1, rfl, by omega, (f.trans f1).trans f2, ?_⟩
      rw [htk, List.nodup_append]
      exact ⟨hnd, by simp, fun a ha b hb e => by simp only [List.mem_singleton] at hb; subst hb; subst e; exact hin ha⟩
end Go.Proofs.Ytgncgokjbakdmaa
