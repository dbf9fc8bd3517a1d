/-
  tlb: Pending.
-/
import Derived.Test.YtgncgokjbakdmaaTl7
import Derived.Test.YtgncgokjbakdmaaTlS
set_option linter.all false
namespace Go.Proofs.Ytgncgokjbakdmaa
open Go.ChangeShapes Go.WideShapes Go.ChangeAt Go.RowKit Go.Lm
set_option linter.unusedSimpArgs false
set_option maxRecDepth 10000 in
theorem bs24_1 (h : LHeap) (x : Int) : buildSliceL Try.prog 24 1 [(0, i x)] h = some (.slice h.next 0 1 (.ex 1), h.alloc (.cells [i x] .ex)) := nr (by kernel_rfl)
theorem ap24 {V U : LV} (hU : U.isStr = false) (g : LHeap) : builtinL Try.prog .append [24, 24] [V, U] g = appendL 1 8 V U g := append_ok (by kernel_rfl) hU g
/-- Is a shootdown pending at a hart? -/
def pendB (st : TSt) (a : Int) (id : Int) : Bool := decide (0 ≤ a ∧ a < st.harts.length) && match st.opn id with
  | some s => s.2[a.toNat]? == some true
  | none => false
def PendL (st : TSt) (a : Int) (l : List Int) : Prop := l.Nodup ∧ (∀ id, id ∈ l ↔ pendB st a id = true) ∧ l.Pairwise (· ≤ ·) ∧ l.length ≤ st.nopn
section
variable {F : Nat → Prop} {g h h' : LHeap} {t : Nat} {st : TSt} {S : Nat → Prop}
theorem sorted_pw (l : List Int) : (sorted l).Pairwise (· ≤ ·) := by
  have h := List.pairwise_mergeSort (le := fun x y : Int => decide (x ≤ y)) (fun a b c h1 h2 => by simp at *; omega) (fun a b => by simp; omega) l
  exact h.imp fun h => by simpa using h
set_option maxRecDepth 10000 in
theorem Pending_ok (B : (TBox t S st).ok g) (lt : ∀ a, S a → a < g.next) (a : Int) : Ok Try.prog 22 [.ptr t 0, i a] g fun v h => ∃ l, PendL st a l ∧ Row h v intE l ∧ Grow h v 1 ∧ Mine h v ∧ (∀ b, v.obj = some b → g.next ≤ b ∧ b < h.next) ∧ Fr noF g h := by
  refine ok22 fun wf _ => ?_
  obtain ⟨Ts, ⟨HS, om, hs, rfl, ok, tw⟩, Sp⟩ := box_open B lt
  have hln : hs.length = st.harts.length := ok.len
  have h8 := tw.h8
  simp (disch := omega) only [F22, J22_0, i]
  refine (is_ok Sp a).mono ?_
  rintro _ h0 ⟨rfl, rfl⟩
  by_cases hr : 0 ≤ a ∧ a < st.harts.length
  rotate_left
  · have hd : decide (0 ≤ a ∧ a < hs.length) = false := by simp; omega
    rw [hd]
    simp (disch := omega) only [sh, sh2]
    refine ⟨[], ⟨List.nodup_nil, fun id => ?_, List.Pairwise.nil, Nat.zero_le _⟩, Row.nils _ _, trivial, trivial, ⟨fun b hb => (by cases hb), Fr.refl _ _⟩⟩
    unfold pendB
    rw [decide_eq_false hr]
    simp
  have hd : decide (0 ≤ a ∧ a < hs.length) = true := by simp; omega
  rw [hd]
  obtain ⟨k, rfl⟩ := Int.eq_ofNat_of_zero_le hr.1
  have hk8 : k < 8 := by omega
  have x0 := Sp.cell 0 rfl
  have hpb : ∀ id, pendB st k id = (match st.opn id with | some s => s.2[k]? == some true | none => false) := fun id => by
    unfold pendB
    rw [decide_eq_true hr]
    simp
  -- the map itself stays as it is; the iterator and the row are new
  obtain ⟨o, left, er, Sr, nd, hll, hdom⟩ := Sp.range 2 (m := om) rfl ty91
  have Sr := Sr.nils intE
  have hmid : ∀ left, ((TlTs t st.size HS st.begun om (fun id => (st.opn id).map shV) st.nopn hs).set 2 (Thing.mapIt om h0.next intK.k (fun id => (st.opn id).map shV) st.nopn left)).length = 3 + 2 * hs.length := fun left => by rw [List.length_set, tl_len]
  simp (disch := omega) only [sh, sh2, J22_1, J22_2, x0, er, J22_4]
  refine loop_n (fun n s h => ∃ (left : List Int) (V : LV) (out : List Int), n = left.length ∧ s = V ∧ left.Nodup ∧ (∀ id ∈ left, (st.opn id).isSome = true) ∧ out.Nodup ∧ out.length + left.length ≤ st.nopn ∧ (∀ id, id ∈ out ↔ pendB st k id = true ∧ id ∉ left) ∧ Fr noF h0 h ∧ (∀ b, V.obj = some b → h0.next ≤ b) ∧
      Sep S h0 h (((TlTs t st.size HS st.begun om (fun id => (st.opn id).map shV) st.nopn hs).set 2 (Thing.mapIt om h0.next intK.k (fun id => (st.opn id).map shV) st.nopn left)) ++ [Thing.vec intE V out])) (n := left.length)
    ⟨left, .nils, [], rfl, rfl, nd, fun id hid => by have := (hdom id).1 hid; simpa using this, List.nodup_nil, by simp; omega, fun id => ⟨fun h => (by cases h), fun ⟨h1, h2⟩ => ?_⟩, Fr.alloc _ _, fun b hb => (by cases hb), Sr⟩ ?_
  · refine absurd ((hdom id).2 ?_) h2
    rw [hpb] at h1
    cases ho : st.opn id with
    | none => rw [ho] at h1; simp at h1
    | some s => rfl
  rintro n s h ⟨left, V, out, rfl, rfl, nd, hdm, ndo, hle, hout, fr, hnew, S1⟩
  have hno := tw.no
  have hb1 := tw.b1
  simp only [L22_5]
  refine S1.next (κ := Int) (m := om) (r := h0.next) (f := intK.k) (mp := fun id => (st.opn id).map shV) (n := st.nopn) (left := left) 2 rfl (fun he => ?_) fun id v left' h2 h3 h4 h5 h6 h7 S2 hen hn2 f2 => ?_
  · subst he
    obtain ⟨RV, GV, MV⟩ := S1.at (T := Thing.vec intE s out) _ last_at
    have ltV : ∀ b, s.obj = some b → b < h.next := fun b hb => S1.lt (T := Thing.vec intE s out) _ last_at hb
    simp (disch := omega) only [sh, sh2, J22_3]
    refine (sort_ok sort46 RV MV (by omega)).mono ?_
    rintro _ h9 ⟨rfl, R9, M9, G9, f9, n9⟩
    have hfr : Fr noF h0 h9 := fr.trans' f9 fun b hb hs => by have := hnew b hs; omega
    refine ⟨sorted out, ⟨(sorted_perm out).nodup_iff.2 ndo, fun id => ?_, sorted_pw out, by rw [sorted_len]; omega⟩, R9, G9 GV, M9, fun b hb => ⟨hnew b hb, by have := ltV b hb; omega⟩, hfr⟩
    rw [(sorted_perm out).mem_iff, hout]; simp
  · obtain ⟨s9, hs9⟩ := Option.isSome_iff_exists.1 (hdm id h3)
    have hv : v = shV s9 := by rw [hs9] at h4; simpa using h4.symm
    subst hv
    have h9 := (tw.op id s9 hs9).2.2.1
    obtain ⟨N, n1, n2⟩ := st9 h2 (s := s9) h9
    obtain ⟨b, hb⟩ : ∃ b, s9.2[k]? = some b := ⟨_, List.getElem?_eq_getElem (by omega)⟩
    have S2 : Sep S h0 h2 (((TlTs t st.size HS st.begun om (fun id => (st.opn id).map shV) st.nopn hs).set 2 (Thing.mapIt om h0.next intK.k (fun id => (st.opn id).map shV) st.nopn left')) ++ [Thing.vec intE s out]) := by
      have h := S2
      rw [List.set_append_left _ _ (by rw [hmid]; omega), List.set_set] at h
      exact h
    have S3 := S2.temp (.cells (i s9.1 :: s9.2.map .bool) .ex)
    have fr2 : Fr noF h0 h2 := fr.trans' f2 fun b hb e => by omega
    have fr3 : Fr noF h0 (h2.alloc (.cells (i s9.1 :: s9.2.map .bool) .ex)) := fr2.alloc' _
    have hixa : ixAddrL (some 8) 1 (.ptr h2.next 1) (.int .i64 (k : Int)) = some (.ptr h2.next (1 + k * 1)) := ix_arr' 1 k hk8
    have c9 := (cell9 h2.next s9.1 s9.2 (h2.alloc (.cells (i s9.1 :: s9.2.map .bool) .ex)) (get_alloc_eq _ _) hb true).1
    rw [load_o, get_alloc_eq] at c9
    have hik : intK.k id = .int .i64 id := rfl
    have hpid : pendB st k id = b := by
      rw [hpb, hs9]
      simp only [hb]
      cases b <;> rfl
    have nd' := h7 nd
    simp (disch := omega) only [sh, sh2, hen, n1, n2, hixa, c9]
    cases b with
    | false =>
      simp (disch := omega) only [sh]
      refine ⟨left'.length, by omega, left', s, out, rfl, rfl, nd', fun id' h' => hdm id' ((h6 id').1 h').1, ndo, by omega, fun id' => ?_, fr3, hnew, S3⟩
      rw [hout id', h6 id']
      by_cases e : id' = id
      · subst e; simp [hpid]
      · simp [e]
    | true =>
      have hni : id ∉ out := fun h => ((hout id).1 h).2 h3
      obtain ⟨V', H, ea, S4, cV, n4, f4, o4⟩ := S3.push (bytes := 8) _ last_at id (cs := [i id]) rfl (by omega)
      rw [set_last] at S4
      have ea : appendL 1 8 s (.slice (h2.alloc (.cells (i s9.1 :: s9.2.map .bool) .ex)).next 0 1 (.ex 1)) ((h2.alloc (.cells (i s9.1 :: s9.2.map .bool) .ex)).alloc (.cells [i id] .ex)) = some (V', H) := ea
      have eap := ap24 (V := s) (U := .slice (h2.alloc (.cells (i s9.1 :: s9.2.map .bool) .ex)).next 0 1 (.ex 1)) rfl ((h2.alloc (.cells (i s9.1 :: s9.2.map .bool) .ex)).alloc (.cells [i id] .ex))
      have hbs := bs24_1 (h2.alloc (.cells (i s9.1 :: s9.2.map .bool) .ex)) id
      have fle := fr3.le
      rw [hik]
      simp (disch := omega) only [i, sh, hbs, eap, ea]
      refine ⟨left'.length, by omega, left', V', out ++ [id], rfl, rfl, nd', fun id' h' => hdm id' ((h6 id').1 h').1, ?_, by simp; omega, fun id' => ?_, fr3.trans' f4 (fun b hb e => by have := hnew b e; omega), fun b hb => ?_, S4⟩
      · rw [List.nodup_append]
        exact ⟨ndo, by simp, fun x hx y hy => by simp at hy; subst hy; intro e; exact hni (e ▸ hx)⟩
      · rw [List.mem_append, hout id', h6 id']
        by_cases e : id' = id
        · subst e; simp [hpid]
        · simp [e]
      · rcases o4 b hb with h | h
        · exact hnew b h
        · omega
end
end Go.Proofs.Ytgncgokjbakdmaa
