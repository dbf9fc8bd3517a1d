/-
  tlb: Handle.
-/
import Derived.Test.YtgncgokjbakdmaaTl8
set_option linter.all false
namespace Go.Proofs.Ytgncgokjbakdmaa
open Go.ChangeShapes Go.WideShapes Go.ChangeAt Go.RowKit Go.Lm
set_option linter.unusedSimpArgs false
def noneL (l : List Bool) : Bool := l.all fun b => !b
def handle1 (a : Nat) (st : TSt) (id : Int) : TSt := match st.opn id with
  | none => st
  | some s => { st with harts := st.harts.set a (goneK (st.hart a) s.1), opn := fun j => if j = id then (if noneL (s.2.set a false) = true then none else some (s.1, s.2.set a false)) else st.opn j, nopn := if noneL (s.2.set a false) = true then st.nopn - 1 else st.nopn }
set_option maxRecDepth 100000 in
theorem left_eq {l : List Bool} (h : l.length = 8) : binL Try.prog .eql 99 false (.agg (l.map .bool)) (.agg ((List.replicate 8 false).map .bool)) = some (.bool (noneL l)) := by
  obtain ⟨a, b, c, d, e, f, g, k, rfl⟩ := list8 h
  cases a
  · cases b
    · cases c
      · cases d
        · cases e
          · cases f
            · cases g
              · cases k <;> kernel_rfl
              · show binL Try.prog .eql 99 false (.agg [.bool false, .bool false, .bool false, .bool false, .bool false, .bool false, .bool true, .bool k]) _ = some (.bool false)
                cases k <;> kernel_rfl
            · show binL Try.prog .eql 99 false (.agg [.bool false, .bool false, .bool false, .bool false, .bool false, .bool true, .bool g, .bool k]) _ = some (.bool false)
              kernel_rfl
          · show binL Try.prog .eql 99 false (.agg [.bool false, .bool false, .bool false, .bool false, .bool true, .bool f, .bool g, .bool k]) _ = some (.bool false)
            kernel_rfl
        · show binL Try.prog .eql 99 false (.agg [.bool false, .bool false, .bool false, .bool true, .bool e, .bool f, .bool g, .bool k]) _ = some (.bool false)
          kernel_rfl
      · show binL Try.prog .eql 99 false (.agg [.bool false, .bool false, .bool true, .bool d, .bool e, .bool f, .bool g, .bool k]) _ = some (.bool false)
        kernel_rfl
    · show binL Try.prog .eql 99 false (.agg [.bool false, .bool true, .bool c, .bool d, .bool e, .bool f, .bool g, .bool k]) _ = some (.bool false)
      kernel_rfl
  · show binL Try.prog .eql 99 false (.agg [.bool true, .bool b, .bool c, .bool d, .bool e, .bool f, .bool g, .bool k]) _ = some (.bool false)
    kernel_rfl
theorem bl99 : buildL Try.prog 99 [] = some (.agg ((List.replicate 8 false).map .bool)) := nr (by kernel_rfl)
theorem cells8 (s : Int) {bs : List Bool} (hb : bs.length = 8) : cellO (some 8) 1 (some (.cells (i s :: bs.map .bool) .ex)) = some (.agg (bs.map .bool)) := by
  rw [cells_o _ _ _ _ (by simp [hb]), List.drop_succ_cons, List.drop_zero, List.take_of_length_le (by simp [hb])]
theorem noneL_ex {l : List Bool} (h : noneL l = false) : ∃ j : Nat, l[j]? = some true := by
  unfold noneL at h
  have : ∃ b ∈ l, b = true := by
    refine Classical.byContradiction fun hn => ?_
    have : (l.all fun b => !b) = true := List.all_eq_true.2 fun b hb => by
      cases b with
      | false => rfl
      | true => exact absurd ⟨true, hb, rfl⟩ hn
    rw [this] at h; cases h
  obtain ⟨b, hb, rfl⟩ := this
  exact List.getElem?_of_mem hb
theorem handle1_wf {st : TSt} (tw : TWf st) {a : Nat} {id : Int} {s : Int × List Bool} (ho : st.opn id = some s) (ha : a < st.harts.length) : TWf (handle1 a st id) := by
  obtain ⟨l, hl⟩ := kept_of (st := st) (k := a) ha
  have tl := tw.nd l (List.mem_of_getElem? hl)
  have hno := tw.no
  simp only [handle1, ho]
  refine ⟨tw.s1, tw.s2, by simpa using tw.h8, fun l' hl' => ?_, tw.b0, tw.b1, ?_, fun id' s' hs' => ?_⟩
  · rcases List.mem_or_eq_of_mem_set hl' with h1 | rfl
    · exact tw.nd l' h1
    · rw [hart_in hl]
      have : (goneK l s.1).length ≤ l.length := List.length_filter_le _ _
      refine ⟨tl.1.sublist (List.filter_sublist.map _), by show ((goneK l s.1).length : Int) ≤ st.size; omega⟩
  · simp only
    split <;> omega
  · simp only at hs' ⊢
    by_cases e : id' = id
    · subst e
      have q := tw.op id' s ho
      rw [if_pos rfl] at hs'
      cases hn : noneL (s.2.set a false) with
      | true => rw [if_pos hn] at hs'; cases hs'
      | false =>
        rw [if_neg (by rw [hn]; decide)] at hs'
        cases hs'
        refine ⟨q.1, q.2.1, by simpa using q.2.2.1, fun j hj => ?_, noneL_ex hn⟩
        simp only [List.getElem?_set] at hj
        split at hj
        · split at hj <;> simp at hj
        · simpa using q.2.2.2.1 j hj
    · rw [if_neg e] at hs'
      have q := tw.op id' s' hs'
      exact ⟨q.1, q.2.1, q.2.2.1, fun j hj => by simpa using q.2.2.2.1 j hj, q.2.2.2.2⟩
theorem handle1_harts {st : TSt} {a : Nat} {id : Int} : (handle1 a st id).harts.length = st.harts.length := by
  unfold handle1; split <;> simp
section
variable {F : Nat → Prop} {g h h' : LHeap} {t : Nat} {st : TSt} {S : Nat → Prop}
set_option maxRecDepth 10000 in
theorem Handle_ok (B : (TBox t S st).ok g) (lt : ∀ a, S a → a < g.next) (a : Int) : Ok Try.prog 24 [.ptr t 0, i a] g fun v h => ∃ l, PendL st a l ∧ v = i l.length ∧ After (TD t) S g h (l.foldl (handle1 a.toNat) st) := by
  refine ok24 fun wf _ => ?_
  simp (disch := omega) only [F24, J24_0, i]
  refine (Pending_ok B lt a).mono ?_
  rintro V h1 ⟨l, PL, RV, GV, MV, nV, f1⟩
  obtain ⟨Ts, ⟨HS, om, hs, rfl, ok, tw⟩, Sp0⟩ := box_open B lt
  have Sp := Sp0.vec V RV GV MV f1 nV
  have hlen := RV.len (P := Try.prog) ty24
  have hno := tw.no
  have hb1 := tw.b1
  have hll := PL.2.2.2
  simp (disch := omega) only [J24_1, J24_3, b_len, hlen, i, sh, sh2]
  refine loop_n (fun n s h => ∃ (k : Nat) (st' : TSt) (HS : LV) (om : Nat) (hs : List HX), s = i (k : Int) ∧ k + n = l.length ∧ st' = (l.take k).foldl (handle1 a.toNat) st ∧ (∀ id ∈ l.drop k, st'.opn id = st.opn id) ∧ st'.harts.length = st.harts.length ∧ All2 HXok hs st'.harts ∧ TWf st' ∧
      Sep S g h (TlTs t st'.size HS st'.begun om (fun id => (st'.opn id).map shV) st'.nopn hs ++ [Thing.vec intE V l])) (n := l.length)
    ⟨0, st, HS, om, hs, rfl, by omega, rfl, fun _ _ => rfl, rfl, ok, tw, Sp⟩ ?_
  rintro n s h ⟨k, st', HS, om, hs, rfl, hk, hst, hrest, hhl, ok, tw', S1⟩
  cases n with
  | zero =>
    rw [List.take_of_length_le (by omega)] at hst
    subst hst
    simp (disch := omega) only [L24_4, J24_2, i, sh, sh2, shi, dec, b_len, hlen]
    exact ⟨l, PL, rfl, S1.init.after ⟨HS, om, hs, rfl, ok, tw'⟩⟩
  | succ n =>
    obtain ⟨id, hid, hd⟩ := drop_at (l := l) (k := k) (by omega)
    have hpend := (PL.2.1 id).1 (List.mem_of_getElem? hid)
    have hr : 0 ≤ a ∧ a < st.harts.length := by
      unfold pendB at hpend
      simp only [Bool.and_eq_true, decide_eq_true_eq] at hpend
      exact hpend.1
    obtain ⟨c, rfl⟩ := Int.eq_ofNat_of_zero_le hr.1
    obtain ⟨s9, hs9⟩ : ∃ s9, st.opn id = some s9 := by
      unfold pendB at hpend
      cases ho : st.opn id with
      | none => rw [ho] at hpend; simp at hpend
      | some s => exact ⟨s, rfl⟩
    have ho' : st'.opn id = some s9 := by rw [hrest id (by rw [hd]; simp), hs9]
    have h9 := (tw'.op id s9 ho').2.2.1
    have hc8 : c < 8 := by have := tw.h8; omega
    obtain ⟨kl, hkl⟩ := kept_of (st := st') (k := c) (by omega)
    obtain ⟨x, hx, hxo, hxm⟩ := hs_get ok hkl
    have tl := (tw'.nd kl (List.mem_of_getElem? hkl)).2
    have ts := tw'.s2
    have RVh := S1.row (V := V) (E := intE) (l := l) _ last_at
    have hix := RVh.ix (k := .i64) (i := k) (by omega)
    have hld := RVh.ld1 hid rfl rfl
    have e1 : intE.e = 1 := rfl
    rw [e1] at hix
    have x0 := S1.cell 0 rfl
    have hlk := MapIs.lookup (P := Try.prog) intK (S1.at (T := Thing.map om intK.k (fun id => (st'.opn id).map shV) st'.nopn) 2 rfl) ty91 zr101 id false
    rw [ho'] at hlk
    have hlk : lookupL Try.prog 91 (.map om) (.int .i64 id) false h = some (shV s9) := hlk
    obtain ⟨N, n1, n2⟩ := st9 h (s := s9) h9
    have S2 := S1.new (i s9.1 :: s9.2.map .bool)
    have x02 := S2.cell 0 rfl
    have xc2 := S2.cell _ last_at
    have iha := (S2.row (V := HS) 1 rfl).ix (k := .i64) (i := c) (by rw [List.length_map]; exact (List.getElem?_eq_some_iff.1 hx).1)
    have e2 : hdE.e = 2 := rfl
    rw [e2] at iha
    have hc1 : cellO none 0 (some (.cells (i s9.1 :: s9.2.map .bool) .ex)) = some (i s9.1) := rfl
    simp (disch := omega) only [L24_4, i, sh, sh2, shi, dec, hix, hld, x0, hlk, n1, n2, x02, iha, hc1, shc]
    rw [List.append_assoc] at S2
    refine (forget_ok S2.self hx (by rw [hxo, List.length_map]; omega) s9.1).mono ?_
    rintro _ h3 ⟨rfl, V', n', S3⟩
    have S3 := S2.frame S3
    rw [← List.append_assoc] at S3
    have xc3 := S3.cell _ last_at
    obtain ⟨b, hb⟩ : ∃ b, s9.2[c]? = some b := ⟨_, List.getElem?_eq_getElem (by omega)⟩
    have c9 := (cell9 h.next s9.1 s9.2 h3 xc3 hb false).2
    rw [store_o _ _ _ rfl, xc3] at c9
    have hixa : ixAddrL (some 8) 1 (.ptr h.next 1) (.int .i64 (c : Int)) = some (.ptr h.next (1 + c * 1)) := ix_arr' 1 c hc8
    have S4 := S3.store _ last_at (i s9.1 :: (s9.2.set c false).map .bool)
    rw [set_last] at S4
    have h9' : (s9.2.set c false).length = 8 := by simpa using h9
    have x04 := S4.cell 0 rfl
    have hct : ((c : Int)).toNat = c := by omega
    have hnew : handle1 c st' id = { st' with harts := st'.harts.set c (goneK kl s9.1), opn := fun j => if j = id then (if noneL (s9.2.set c false) = true then none else some (s9.1, s9.2.set c false)) else st'.opn j, nopn := if noneL (s9.2.set c false) = true then st'.nopn - 1 else st'.nopn } := by
      simp only [handle1, ho', hart_in hkl]
    have hgk : (x.ord.filter fun q => !(q.1 == s9.1)) = (goneK kl s9.1).map (·.1) := by
      rw [hxo, goneK, List.filter_map]; rfl
    have hxok : HXok ⟨x.m, V', x.ord.filter fun q => !(q.1 == s9.1), fun q => if (q.1 == s9.1) = true then none else x.mp q, n'⟩ (goneK kl s9.1) := by
      refine ⟨hgk, ?_⟩
      funext q
      rw [hxm]
      have := lkp_filter (fun q => !(q.1 == s9.1)) kl q
      unfold goneK
      rw [this]
      by_cases hq : (q.1 == s9.1) = true <;> simp [hq]
    have okn := ok.set c hxok
    have twn := handle1_wf tw' ho' (a := c) (by omega)
    have hstn : (l.take (k + 1)).foldl (handle1 ((c : Int)).toNat) st = handle1 c st' id := by
      rw [take_snoc hid, List.foldl_append, ← hst, hct]; rfl
    have hnid : ∀ j ∈ l.drop (k + 1), j ≠ id := fun j hj e => by
      subst e
      have := PL.1
      rw [← List.take_append_drop k l, hd, List.nodup_append] at this
      exact (List.nodup_cons.1 this.2.1).1 hj
    have hrest' : ∀ j ∈ l.drop (k + 1), (handle1 c st' id).opn j = st.opn j := fun j hj => by
      rw [hnew]
      simp only
      rw [if_neg (hnid j hj)]
      exact hrest j (by rw [hd]; exact List.mem_cons_of_mem _ hj)
    have bl := bl99
    have leq := left_eq h9'
    have c8 := cells8 s9.1 h9'
    have c99 := cells9 (s := (s9.1, s9.2.set c false)) h9'
    simp (disch := omega) only [i, sh, sh2, shs, hixa, xc3, c9, c8, bl, leq]
    cases hn : noneL (s9.2.set c false) with
    | true =>
      rw [if_pos hn, if_pos hn] at hnew
      obtain ⟨H, ed, S5, f5⟩ := S4.mdel intK 2 (m := om) (mp := fun id => (st'.opn id).map shV) (n := st'.nopn) rfl ty91 id [3]
      have ed : builtinL Try.prog .delete [91, 3] [.map om, .int .i64 id] (h3.set h.next (.cells (i s9.1 :: (s9.2.set c false).map .bool) .ex)) = some (undefL, H) := ed
      simp (disch := omega) only [i, sh, sh2, shi, dec, x04, ed]
      refine ⟨n, by omega, k + 1, handle1 c st' id, HS, om, _, by simp, by omega, hstn.symm, hrest', by rw [handle1_harts]; exact hhl, by rw [hnew]; exact okn, twn, ?_⟩
      have S6 : Sep S g H ((TlTs t st'.size HS st'.begun om _ _ _ ++ [Thing.vec intE V l]) ++ [Thing.cells h.next (i s9.1 :: (s9.2.set c false).map .bool)]) := S5
      have S6 := S6.init
      rw [hnew]
      have e3 : upd (fun id => (st'.opn id).map shV) id none = fun j => (if j = id then none else st'.opn j).map shV := by
        funext j
        by_cases e : j = id
        · subst e; rw [upd_at]; simp
        · rw [upd_ne _ _ e]; simp [e]
      rw [e3] at S6
      simp only [ho', Option.map_some] at S6
      exact S6
    | false =>
      rw [if_neg (by rw [hn]; decide), if_neg (by rw [hn]; decide)] at hnew
      obtain ⟨H, em, S5, f5⟩ := S4.mset intK 2 (m := om) (mp := fun id => (st'.opn id).map shV) (n := st'.nopn) rfl ty91 id (shV (s9.1, s9.2.set c false))
      have em : mapSetL Try.prog 91 (.map om) (.int .i64 id) (shV (s9.1, s9.2.set c false)) (h3.set h.next (.cells (i s9.1 :: (s9.2.set c false).map .bool) .ex)) = some H := em
      simp (disch := omega) only [i, sh, sh2, shi, dec, x04, c99, em, shc]
      refine ⟨n, by omega, k + 1, handle1 c st' id, HS, om, _, by simp, by omega, hstn.symm, hrest', by rw [handle1_harts]; exact hhl, by rw [hnew]; exact okn, twn, ?_⟩
      have S6 : Sep S g H ((TlTs t st'.size HS st'.begun om _ _ _ ++ [Thing.vec intE V l]) ++ [Thing.cells h.next (i s9.1 :: (s9.2.set c false).map .bool)]) := S5
      have S6 := S6.init
      rw [hnew]
      have e3 : upd (fun id => (st'.opn id).map shV) id (some (shV (s9.1, s9.2.set c false))) = fun j => (if j = id then some (s9.1, s9.2.set c false) else st'.opn j).map shV := by
        funext j
        by_cases e : j = id
        · subst e; rw [upd_at]; simp
        · rw [upd_ne _ _ e]; simp [e]
      rw [e3] at S6
      simp only [ho', Option.map_some] at S6
      exact S6
end
end Go.Proofs.Ytgncgokjbakdmaa
