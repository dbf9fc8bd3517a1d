/-
  frame, the law: ops; a word is stored into a frame that is used; plain facts.
-/
import Derived.Test.YtoajcekgoalhjaaFrI
import Derived.Test.YtoajcekgoalhjaaLm6x
set_option linter.all false
namespace Go.Proofs.Ytoajcekgoalhjaa
open Go.ChangeShapes Go.WideShapes Go.ChangeAt Go.RowKit Go.Lm
set_option linter.unusedSimpArgs false
set_option linter.unusedVariables false
set_option maxRecDepth 10000
abbrev FOp := Int × Int × Int
def fopE : Enc FOp := ⟨fun o => [i o.1, i o.2.1, i o.2.2], 3, fun _ => rfl, fun o v h => by
  simp only [List.mem_cons, List.not_mem_nil, or_false] at h
  rcases h with rfl | rfl | rfl <;> rfl, by decide⟩
theorem ty43 : Try.prog.underlying 43 = some (.slice 52) := by kernel_rfl
theorem by52 : Try.prog.bytesOf 52 = 24 := by kernel_rfl
def inI (n : Int) : Prop := -9223372036854775808 ≤ n ∧ n < 9223372036854775808
theorem inI_of {n : Int} (h0 : IntKind.i64.min ≤ n) (h1 : n ≤ IntKind.i64.max) : inI n := by
  have e0 : IntKind.i64.min = -9223372036854775808 := by decide
  have e1 : IntKind.i64.max = 9223372036854775807 := by decide
  rw [e0] at h0; rw [e1] at h1
  exact ⟨h0, by omega⟩
theorem shp_fops {g : LHeap} {n : Nat} {V : LV} (h : SlShp Try.prog g (n + 2) 52 V) : ∃ ops, Row g V fopE ops ∧ (∀ o ∈ ops, inI o.1 ∧ inI o.2.1 ∧ inI o.2.2) ∧ ops.length * 24 ≤ 140737488351232 := by
  obtain ⟨ops, h1, h2, _, _, h4⟩ := shp_row (E := fopE) (Q := fun o : FOp => inI o.1 ∧ inI o.2.1 ∧ inI o.2.2) (fun ys hy => by
    obtain ⟨xss, rfl, hA⟩ := shp_fields Try.underlying52 hy
    obtain ⟨a, _, rfl, a0, a1, hA⟩ := alls_int u3 hA
    obtain ⟨b, _, rfl, b0, b1, hA⟩ := alls_int u3 hA
    obtain ⟨c, _, rfl, c0, c1, hA⟩ := alls_int u3 hA
    obtain rfl := alls_nil hA
    exact ⟨⟨a, b, c⟩, rfl, inI_of a0 a1, inI_of b0 b1, inI_of c0 c1⟩) h
  rw [by52] at h4
  exact ⟨ops, h1, h2, h4⟩
theorem new_fop (h : LHeap) (o : FOp) : ∃ N, newL (.agg [.int .i64 0, .int .i64 0, .int .i64 0]) h = some (.ptr h.next 0, N) ∧ storeV 3 (.ptr h.next 0) (.agg (fopE.f o)) N = some (h.alloc (.cells (fopE.f o) .ex)) := by
  refine ⟨_, new_agg _ _ (by simp [LV.cell]), ?_⟩
  show storeV 3 _ (.agg [i o.1, i o.2.1, i o.2.2]) _ = _
  simp only [sh2, shc, i]
  rfl
theorem fop_c (o : FOp) : cellO none 0 (some (.cells (fopE.f o) .ex)) = some (.int .i64 o.1) ∧ cellO none 1 (some (.cells (fopE.f o) .ex)) = some (.int .i64 o.2.1) ∧ cellO none 2 (some (.cells (fopE.f o) .ex)) = some (.int .i64 o.2.2) := ⟨rfl, rfl, rfl⟩
/-- (x % n + n) % n, as Go has it. -/
def norm (x n : Int) : Int := (x.tmod n + n).tmod n
theorem tmod_b {x n : Int} (hn : 0 < n) : -n < x.tmod n ∧ x.tmod n < n := ⟨Int.lt_tmod_of_pos x hn, Int.tmod_lt_of_pos x hn⟩
theorem norm_b (x : Int) {n : Int} (hn : 0 < n) : 0 ≤ norm x n ∧ norm x n < n := by
  have h := tmod_b (x := x) hn
  unfold norm
  rw [Int.tmod_eq_emod_of_nonneg (by omega)]
  exact ⟨Int.emod_nonneg _ (by omega), Int.emod_lt_of_pos _ hn⟩
/-- A word is stored. -/
def wrS (st : FSt) (addr : Int) (w : Int) : FSt := { st with bs := putB st.bs addr.toNat (wordB w 4) }
theorem wr_fit {st : FSt} (w : FWf st) {y addr : Int} (hy : st.cnt y ≠ 0) (h0 : 256 * y ≤ addr) (h1 : addr + 4 ≤ 256 * y + 256) : addr.toNat + 4 ≤ st.bs.length ∧ 0 ≤ addr ∧ spanIn st.bs addr 4 := by
  have hin := w.frameIn (cnt_pos hy)
  have := frame_fit hin
  unfold frameIn at hin
  exact ⟨by omega, by omega, by unfold spanIn; omega⟩
theorem wr_wf {st : FSt} (w : FWf st) {y addr : Int} (v : Int) (hy : st.cnt y ≠ 0) (h0 : 256 * y ≤ addr) (h1 : addr + 4 ≤ 256 * y + 256) : FWf (wrS st addr v) := by
  obtain ⟨fit, a0, _⟩ := wr_fit w hy h0 h1
  have hw := wordB_len v 4
  have hl : (putB st.bs addr.toNat (wordB v 4)).length = st.bs.length := putB_len (by rw [hw]; exact fit)
  refine ⟨w.h1, w.h8, w.l8, w.le, w.f0, w.n1, ?_, ?_, ?_, ?_, w.cr, w.I1, w.I2, w.so, fun z hz => ?_⟩
  · show (putB st.bs addr.toNat (wordB v 4)).length ≤ _; rw [hl]; exact w.b1
  · show _ ≤ (putB st.bs addr.toNat (wordB v 4)).length; rw [hl]; exact w.b2
  · show (putB st.bs addr.toNat (wordB v 4)).length % 256 = 0; rw [hl]; exact w.b3
  · show _ ≤ (((putB st.bs addr.toNat (wordB v 4)).length / 256 : Nat) : Int); rw [hl]; exact w.fit
  · show frameB (putB st.bs addr.toNat (wordB v 4)) z = _
    have hz' : z ∈ st.all := hz
    obtain ⟨hin, h0'⟩ := w.mem hz'
    have hzf := w.frameIn hin
    unfold frameIn at hzf
    rw [frameB_apart (by rw [hw]; exact fit)]
    · exact w.z z hz'
    · have hne : z ≠ y := fun e => by subst e; exact hy h0'
      rw [hw]; omega
section
variable {F : Nat → Prop} {g h h' : LHeap} {x m a k c : Nat} {st : FSt} {S : Nat → Prop} {V U : LV} {l l1 l2 : List Int}
theorem storeM (B : (FBox x m S st).ok g) (lt : ∀ b, S b → b < g.next) {y addr : Int} (v : Int) (hy : st.cnt y ≠ 0) (h0 : 256 * y ≤ addr) (h1 : addr + 4 ≤ 256 * y + 256) (h4 : addr % 4 = 0) : Ok Try.prog 24 [.ptr m 0, i addr, .int .u32 v] g fun r h => r = i 0 ∧ After (FD x m) S g h (wrS st addr v) := by
  obtain ⟨a, CV, CC, rs, Sp, hl, w⟩ := fr_open B lt
  obtain ⟨fit, a0, sp⟩ := wr_fit w hy h0 h1
  refine (Store32_ok (fr_m Sp w.b1 w.b2 w.b3) addr a0 v).mono ?_
  rintro _ h ⟨rfl, M⟩
  rw [if_pos ⟨h4, sp⟩] at M ⊢
  refine ⟨rfl, ?_⟩
  have S' := fr_mem Sp M (putB_len (by rw [wordB_len]; exact fit))
  exact fr_shut (st := wrS st addr v) S' hl (wr_wf w v hy h0 h1)
end
theorem usedL_le (l : List Int) : usedL l ≤ l.length := List.length_filter_le _ _
/-- Alloc, said. -/
theorem alloc_said {st : FSt} (w : FWf st) {k : Nat} (hk : k < st.harts) : (usedL st.counts < st.counts.length ∧ (allocS st k).2.2 = 0 ∧ st.inR (allocS st k).2.1 ∧ st.cnt (allocS st k).2.1 = 0 ∧ frameB st.bs (allocS st k).2.1 = zerosB 256 ∧ (allocS st k).1.first = st.first ∧ (allocS st k).1.harts = st.harts ∧ (allocS st k).1.bs = st.bs ∧ (allocS st k).1.counts.length = st.counts.length ∧ usedL (allocS st k).1.counts = usedL st.counts + 1 ∧ ∀ z, (allocS st k).1.cnt z = if z = (allocS st k).2.1 then 1 else st.cnt z) ∨ (usedL st.counts = st.counts.length ∧ (allocS st k).2.2 = 2 ∧ (allocS st k).1 = st) := by
  have hi : st.isH k := ⟨by omega, by omega⟩
  have i2 := w.I2
  by_cases hf : st.freeN = 0
  · right
    unfold allocS
    rw [if_pos hi, if_pos hf]
    exact ⟨by omega, rfl, rfl⟩
  · left
    have e : allocS st k = (popS (readyS st k) k, ((readyS st k).listOf k).getLastD 0, 0) := by unfold allocS; rw [if_pos hi, if_neg hf]; rfl
    obtain ⟨w2, hne⟩ := ready_wf w hk hf
    have hharts : (readyS st k).harts = st.harts := by unfold readyS; split <;> rfl
    have hfirst : (readyS st k).first = st.first := by unfold readyS; split <;> rfl
    have hcounts : (readyS st k).counts = st.counts := by unfold readyS; split <;> rfl
    have hbs : (readyS st k).bs = st.bs := by unfold readyS; split <;> rfl
    obtain ⟨wp, hr, h0, hm⟩ := pop_wf w2 (k := k) (by omega) hne
    rw [e]
    show _ ∧ _ ∧ st.inR (((readyS st k).listOf k).getLastD 0) ∧ st.cnt (((readyS st k).listOf k).getLastD 0) = 0 ∧ frameB st.bs (((readyS st k).listOf k).getLastD 0) = _ ∧ (popS (readyS st k) k).first = _ ∧ (popS (readyS st k) k).harts = _ ∧ (popS (readyS st k) k).bs = _ ∧ (popS (readyS st k) k).counts.length = _ ∧ usedL (popS (readyS st k) k).counts = _ ∧ ∀ z, (popS (readyS st k) k).cnt z = if z = ((readyS st k).listOf k).getLastD 0 then 1 else st.cnt z
    have hz := w2.z _ hm
    generalize hy : ((readyS st k).listOf k).getLastD 0 = y at *
    have ec : ∀ z, (readyS st k).cnt z = st.cnt z := fun z => by rw [cnt_eq, cnt_eq, hfirst, hcounts]
    have er : (readyS st k).inR y ↔ st.inR y := by unfold FSt.inR; rw [hfirst, hcounts]
    have ep : ∀ z, (popS (readyS st k) k).cnt z = (setC (readyS st k) y 1).cnt z := fun z => by unfold popS setC; rw [hy]; rfl
    have hu := used_set 1 (ix_of hr).2.2
    rw [h0, if_neg (by omega), if_pos (by omega)] at hu
    refine ⟨by omega, rfl, er.1 hr, (ec y).symm.trans h0, by rw [← hbs]; exact hz, hfirst, hharts, hbs, ?_, ?_, fun z => ?_⟩
    · show ((readyS st k).counts.set _ 1).length = _; rw [List.length_set, hcounts]
    · have : usedL (popS (readyS st k) k).counts = usedL ((readyS st k).counts.set ((readyS st k).ix y) 1) := by unfold popS; rw [hy]
      rw [this]
      rw [hcounts] at hu ⊢
      omega
    · rw [ep, setC_cnt hr, ec]
/-- Decr, said, where a frame is used once. -/
theorem decr_said {st : FSt} (w : FWf st) {k : Nat} (hk : k < st.harts) {y : Int} (hy : st.cnt y = 1) : (decrS st k y).2 = (true, 0) ∧ (decrS st k y).1.first = st.first ∧ (decrS st k y).1.harts = st.harts ∧ (decrS st k y).1.counts.length = st.counts.length ∧ usedL (decrS st k y).1.counts + 1 = usedL st.counts ∧ ∀ z, (decrS st k y).1.cnt z = if z = y then 0 else st.cnt z := by
  have hi : st.isH k := ⟨by omega, by omega⟩
  have e : decrS st k y = (backS (setC st y 0) k y, true, 0) := by
    unfold decrS
    rw [if_pos hi, if_neg (by omega), if_neg (by omega)]; rfl
  have hr := cnt_pos (st := st) (y := y) (by omega)
  have hu := used_set 0 (ix_of hr).2.2
  rw [hy, if_pos (by omega), if_neg (by omega)] at hu
  rw [e]
  have b1 : (backS (setC st y 0) k y).first = st.first := by unfold backS; split <;> rfl
  have b2 : (backS (setC st y 0) k y).harts = st.harts := by unfold backS; split <;> rfl
  have b3 : (backS (setC st y 0) k y).counts = (setC st y 0).counts := by unfold backS; split <;> rfl
  refine ⟨rfl, b1, b2, ?_, ?_, fun z => ?_⟩
  · show (backS (setC st y 0) k y).counts.length = _; rw [b3]; simp [setC]
  · show usedL (backS (setC st y 0) k y).counts + 1 = _; rw [b3]; show usedL (st.counts.set _ 0) + 1 = _; omega
  · rw [← setC_cnt hr]
    show (backS (setC st y 0) k y).cnt z = _
    rw [cnt_eq, cnt_eq, b3, b1]; rfl
theorem neq_f {t : TypeId} {lit : Bool} {a b : Int} (h : a = b) : binL Try.prog .neq t lit (.int .i64 a) (.int .i64 b) = some (.bool false) := by rw [binL_neq_int, h]; simp
theorem neq_t {t : TypeId} {lit : Bool} {a b : Int} (h : a ≠ b) : binL Try.prog .neq t lit (.int .i64 a) (.int .i64 b) = some (.bool true) := by rw [binL_neq_int]; simp [h]
theorem neq_b (a b : Bool) : binL Try.prog .neq 4 false (.bool a) (.bool b) = some (.bool (a != b)) := by cases a <;> cases b <;> exact nr (by kernel_rfl)
theorem rem_i {t : TypeId} {lit : Bool} {a b : Int} (h : 0 < b) : binL Try.prog .rem t lit (.int .i64 a) (.int .i64 b) = some (.int .i64 (a.tmod b)) := binL_rem_int _ _ _ _ _ (by omega)
section
variable {F : Nat → Prop} {g h h' : LHeap} {V : LV} {l : List Int}
theorem vpush {Ts : List Thing} {q : Nat} (Sp : Sep F g h Ts) (hq : Ts[q]? = some (Thing.vec intE V l)) (y : Int) (hb : l.length ≤ 2 ^ 32) :
    ∃ V' h', builtinL Try.prog .append [50, 50] [V, .slice h.next 0 1 (.ex 1)] (h.alloc (.cells [.int .i64 y] .ex)) = some (V', h') ∧ Sep F g h' (Ts.set q (Thing.vec intE V' (l ++ [y]))) := by
  obtain ⟨V', h', e, S', c, _⟩ := Sp.push q hq (bytes := 8) y (cs := [i y]) rfl (by omega)
  exact ⟨V', h', (ap50 rfl _).trans e, S'⟩
end
end Go.Proofs.Ytoajcekgoalhjaa
