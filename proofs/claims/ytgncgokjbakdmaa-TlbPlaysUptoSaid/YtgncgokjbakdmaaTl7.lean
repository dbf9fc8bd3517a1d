/-
  tlb: Start.
-/
import Derived.Test.YtgncgokjbakdmaaTl6
set_option linter.all false
namespace Go.Proofs.Ytgncgokjbakdmaa
open Go.ChangeShapes Go.WideShapes Go.ChangeAt Go.RowKit Go.Lm
set_option linter.unusedSimpArgs false
def leftB (l : List Int) : List Bool := (List.range 8).map fun (j : Nat) => decide ((j : Int) ∈ l)
theorem leftB_len (l : List Int) : (leftB l).length = 8 := by simp [leftB]
theorem leftB_at (l : List Int) {j : Nat} (hj : j < 8) : (leftB l)[j]? = some (decide ((j : Int) ∈ l)) := by simp [leftB, hj]
theorem leftB_snoc (l : List Int) {j : Nat} (hj : j < 8) : leftB (l ++ [(j : Int)]) = (leftB l).set j true := by
  apply List.ext_getElem?
  intro k
  by_cases hk : k < 8
  · rw [leftB_at _ hk, List.getElem?_set]
    by_cases e : j = k
    · subst e; simp [leftB_len, hj]
    · rw [if_neg e, leftB_at _ hk]
      have : (k : Int) ≠ j := by omega
      simp [this]
  · rw [List.getElem?_eq_none (by rw [leftB_len]; omega), List.getElem?_eq_none (by rw [List.length_set, leftB_len]; omega)]
def okTs (n : Nat) (ts : List Int) : Prop := ts.Nodup ∧ ∀ a ∈ ts, 0 ≤ a ∧ a < n
def startT (st : TSt) (sp : Int) (ts : List Int) : TSt :=
  { st with begun := st.begun + 1, opn := fun id => if ts ≠ [] ∧ id = st.begun + 1 then some (sp, leftB ts) else st.opn id, nopn := if ts = [] then st.nopn else st.nopn + 1 }
theorem bl101 (sp : Int) : buildL Try.prog 101 [(0, i sp)] = some (shV (sp, List.replicate 8 false)) := nr (by kernel_rfl)
theorem cell9 (c : Nat) (s : Int) (bs : List Bool) (h : LHeap) {j : Nat} {b : Bool} (hg : h.get c = some (.cells (i s :: bs.map .bool) .ex)) (hj : bs[j]? = some b) (v : Bool) :
    loadV none (.ptr c (1 + j * 1)) h = some (.bool b) ∧ storeV 1 (.ptr c (1 + j * 1)) (.bool v) h = some (h.set c (.cells (i s :: (bs.set j v).map .bool) .ex)) := by
  rw [load_o, store_o _ _ _ rfl, hg, Nat.mul_one, Nat.add_comm 1 j]
  simp only [cellO, setO, List.getElem?_cons_succ, List.getElem?_map, hj, Option.map_some, List.set_cons_succ, st_ex]
  exact ⟨trivial, by rw [List.map_set]⟩
section
variable {F : Nat → Prop} {g h h' : LHeap} {t : Nat} {st : TSt} {S : Nat → Prop}
set_option maxRecDepth 10000 in
theorem Start_ok (B : (TBox t S st).ok g) (lt : ∀ a, S a → a < g.next) (sp : Int) {V : LV} {ts : List Int} (R : Row g V intE ts) (ltV : ∀ a, V.obj = some a → a < g.next) (hl : ts.length < 9223372036854775808) : Ok Try.prog 21 [.ptr t 0, i sp, V] g fun v h =>
    (¬ okTs st.harts.length ts ∧ v = .tuple [i 0, i 1] ∧ After (TD t) S g h st) ∨ (okTs st.harts.length ts ∧ 2147483647 ≤ st.begun ∧ v = .tuple [i 0, i 2] ∧ After (TD t) S g h st) ∨
    (okTs st.harts.length ts ∧ st.begun < 2147483647 ∧ v = .tuple [i (st.begun + 1), i 0] ∧ After (TD t) S g h (startT st sp ts)) := by
  refine ok21 fun wf _ => ?_
  obtain ⟨Ts, ⟨HS, om, hs, rfl, ok, tw⟩, Sp⟩ := box_open B lt
  have hln : hs.length = st.harts.length := ok.len
  have hlen := R.len (P := Try.prog) ty24
  have h8 := tw.h8
  have hb0 := tw.b0
  have hb1 := tw.b1
  obtain ⟨N, n1, n2⟩ := st9 g (s := (sp, List.replicate 8 false)) rfl
  have S1 := Sp.new (i sp :: (leftB []).map .bool)
  have e8 : (i sp :: (List.replicate 8 false).map LV.bool) = i sp :: (leftB []).map .bool := rfl
  rw [e8] at n2
  simp (disch := omega) only [F21, J21_0, J21_1, J21_2, J21_7, i, sh, sh2, nil_p ty36 true, bl101, n1, n2, b_len, hlen]
  refine loop_n (fun n s h => ∃ k : Nat, s = i (k : Int) ∧ k + n = ts.length ∧ okTs st.harts.length (ts.take k) ∧ Fr noF g h ∧ Sep S g h (TlTs t st.size HS st.begun om (fun id => (st.opn id).map shV) st.nopn hs ++ [Thing.cells g.next (i sp :: (leftB (ts.take k)).map .bool)])) (n := ts.length)
    ⟨0, rfl, by omega, ⟨by simp, fun a ha => by simp at ha⟩, Fr.alloc _ _, S1⟩ ?_
  rintro n s h ⟨k, rfl, hk, okk, fr, Sk⟩
  have fin : ∀ {h2}, Sep S g h2 (TlTs t st.size HS st.begun om (fun id => (st.opn id).map shV) st.nopn hs) → After (TD t) S g h2 st := fun S2 => S2.after ⟨HS, om, hs, rfl, ok, tw⟩
  have xc := Sk.cell (TlTs t st.size HS st.begun om (fun id => (st.opn id).map shV) st.nopn hs).length (a := g.next) (vs := i sp :: (leftB (ts.take k)).map .bool) (by simp)
  cases n with
  | succ n =>
    obtain ⟨a, ha, hd⟩ := drop_at (l := ts) (k := k) (by omega)
    have Rh : Row h V intE ts := R.fr fun b hb => fr.eq b (ltV b hb) id
    have hix := Rh.ix (k := .i64) (i := k) (by omega)
    have hld := Rh.ld1 ha rfl rfl
    have e1 : intE.e = 1 := rfl
    rw [e1] at hix
    have htk := take_snoc ha
    simp (disch := omega) only [L21_8, i, sh, sh2, shi, dec, hix, hld]
    refine (is_ok Sk.init a).mono ?_
    rintro _ h ⟨rfl, rfl⟩
    by_cases hr : 0 ≤ a ∧ a < st.harts.length
    rotate_left
    · have hdd : decide (0 ≤ a ∧ a < hs.length) = false := by simp; omega
      rw [hdd]
      simp (disch := omega) only [sh, sh2]
      exact .inl ⟨fun hh => hr (hh.2 a (List.mem_of_getElem? ha)), trivial, fin Sk.init⟩
    have hdd : decide (0 ≤ a ∧ a < hs.length) = true := by simp; omega
    obtain ⟨j, rfl⟩ := Int.eq_ofNat_of_zero_le hr.1
    have hj : j < 8 := by omega
    have c9 := cell9 g.next sp (leftB (ts.take k)) h xc (leftB_at _ hj) true
    have hixa : ixAddrL (some 8) 1 (.ptr g.next 1) (.int .i64 (j : Int)) = some (.ptr g.next (1 + j * 1)) := ix_arr' 1 j hj
    rw [hdd]
    by_cases hm : (j : Int) ∈ ts.take k
    · have c91 := c9.1
      rw [decide_eq_true hm] at c91
      rw [load_o] at c91
      simp (disch := omega) only [sh, sh2, hixa, c91]
      refine .inl ⟨fun hh => ?_, trivial, fin Sk.init⟩
      have hnd : (ts.take (k + 1)).Nodup := hh.1.sublist (List.take_sublist _ _)
      rw [htk, List.nodup_append] at hnd
      exact hnd.2.2 _ hm _ (by simp) rfl
    · obtain ⟨c91, c92⟩ := c9
      rw [decide_eq_false hm] at c91
      rw [load_o] at c91
      rw [store_o _ _ _ rfl] at c92
      simp (disch := omega) only [sh, sh2, shs, shi, dec, hixa, c91, c92]
      refine ⟨n, by omega, k + 1, by simp, by omega, ?_, fr.set' _ (.inl (by omega)), ?_⟩
      · rw [htk]
        refine ⟨?_, fun b hb => ?_⟩
        · rw [List.nodup_append]
          exact ⟨okk.1, by simp, fun x hx y hy => by simp at hy; subst hy; intro e; exact hm (e ▸ hx)⟩
        · rcases List.mem_append.1 hb with hb | hb
          · exact okk.2 b hb
          · simp at hb; subst hb; exact hr
      · rw [htk, leftB_snoc _ hj]
        have S2 := Sk.store (TlTs t st.size HS st.begun om (fun id => (st.opn id).map shV) st.nopn hs).length (a := g.next) (vs := i sp :: (leftB (ts.take k)).map .bool) (by simp) (i sp :: ((leftB (ts.take k)).set j true).map .bool)
        rw [List.set_append_right _ _ (Nat.le_refl _), Nat.sub_self] at S2
        exact S2
  | zero =>
    have hall : ts.take k = ts := List.take_of_length_le (by omega)
    rw [hall] at okk Sk xc
    have x0 := Sk.cell 0 rfl
    by_cases hb : 2147483647 ≤ st.begun
    · simp (disch := omega) only [L21_8, J21_3, i, sh, sh2, shi, dec, x0]
      exact .inr (.inl ⟨okk, hb, trivial, fin Sk.init⟩)
    have S2 : Sep S g (h.set t (.cells [i st.size, HS, i (st.begun + 1), .map om] .ex)) (TlTs t st.size HS (st.begun + 1) om (fun id => (st.opn id).map shV) st.nopn hs ++ [Thing.cells g.next (i sp :: (leftB ts).map .bool)]) := Sk.store 0 rfl [i st.size, HS, i (st.begun + 1), .map om]
    have hnone : st.opn (st.begun + 1) = none := by
      cases ho : st.opn (st.begun + 1) with
      | none => rfl
      | some s => have := tw.op _ s ho; omega
    by_cases ht : ts = []
    · subst ht
      have x2 := S2.cell 0 rfl
      simp (disch := omega) only [L21_8, J21_3, J21_4, J21_5, J21_6, i, sh, sh2, shs, shi, dec, x0, List.length_nil, b_len, hlen]
      refine .inr (.inr ⟨okk, by omega, trivial, ?_⟩)
      refine S2.init.after ⟨HS, om, hs, ?_, ok, ?_⟩
      · simp [startT, TlTs]
      · have hop := tw.op
        refine ⟨tw.s1, tw.s2, tw.h8, tw.nd, by simp [startT]; omega, by simp [startT]; omega, ?_, fun id s hs' => ?_⟩
        · have := tw.no; simp [startT]; omega
        · have := hop id s (by simpa [startT] using hs')
          exact ⟨this.1, by simp only [startT]; omega, this.2.2⟩
    · have hne : ts.length ≠ 0 := fun h => ht (List.length_eq_zero_iff.1 h)
      obtain ⟨H, em, S3, f3⟩ := S2.mset intK 2 (m := om) (mp := fun id => (st.opn id).map shV) (n := st.nopn) rfl ty91 (st.begun + 1) (shV (sp, leftB ts))
      have em : mapSetL Try.prog 91 (.map om) (.int .i64 (st.begun + 1)) (shV (sp, leftB ts)) (h.set t (.cells [i st.size, HS, i (st.begun + 1), .map om] .ex)) = some H := em
      have x3 := S3.cell 0 rfl
      have xc2 := S2.cell (TlTs t st.size HS (st.begun + 1) om (fun id => (st.opn id).map shV) st.nopn hs).length (a := g.next) (vs := i sp :: (leftB ts).map .bool) (by simp)
      have hcc := cells9 (s := (sp, leftB ts)) (leftB_len ts)
      simp (disch := omega) only [L21_8, J21_3, J21_4, J21_5, J21_6, i, sh, sh2, shs, shc, shi, dec, x0, b_len, hlen, xc2, hcc, em, x3]
      refine .inr (.inr ⟨okk, by omega, ?_⟩)
      have S3 := S3.init (Ts := [Thing.cells t [i st.size, HS, i (st.begun + 1), .map om], Thing.vec hdE HS (hs.map HX.hd), Thing.map om intK.k _ _] ++ (hs.map HX.mT ++ hs.map HX.vT))
      refine S3.after ⟨HS, om, hs, ?_, ok, ?_⟩
      · have e1 : upd (fun id => (st.opn id).map shV) (st.begun + 1) (some (shV (sp, leftB ts))) = fun id => ((startT st sp ts).opn id).map shV := by
          funext id
          by_cases e : id = st.begun + 1
          · subst e; rw [upd_at]; simp [startT, ht]
          · rw [upd_ne _ _ e]; simp [startT, e]
        rw [e1]
        simp only [hnone, Option.map_none]
        simp [startT, ht, TlTs]
      · have hop := tw.op
        refine ⟨tw.s1, tw.s2, tw.h8, tw.nd, by simp [startT]; omega, by simp [startT]; omega, ?_, fun id s hs' => ?_⟩
        · have := tw.no; simp [startT, ht]; omega
        · by_cases e : id = st.begun + 1
          · subst e
            simp only [startT, ht, ne_eq, not_false_eq_true, and_self, if_true, Option.some.injEq] at hs'
            subst hs'
            refine ⟨by omega, by simp only [startT]; omega, leftB_len ts, fun j hj => ?_, ?_⟩
            · have hj8 : j < 8 := by have := (List.getElem?_eq_some_iff.1 hj).1; rw [leftB_len] at this; exact this
              rw [leftB_at _ hj8] at hj
              have := okk.2 j (by simpa using hj)
              show j < st.harts.length
              omega
            · obtain ⟨a, l, rfl⟩ : ∃ a l, ts = a :: l := by cases ts with | nil => exact absurd rfl ht | cons a l => exact ⟨a, l, rfl⟩
              have := okk.2 a (by simp)
              refine ⟨a.toNat, ?_⟩
              rw [leftB_at _ (by omega)]
              have : ((a.toNat : Nat) : Int) = a := by omega
              simp [this]
          · have := hop id s (by simpa [startT, e] using hs')
            exact ⟨this.1, by simp only [startT]; omega, this.2.2⟩
end
end Go.Proofs.Ytgncgokjbakdmaa
