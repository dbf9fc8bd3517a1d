/-
  parapetref07: Flush, has, Over, Open.
-/
import Derived.Test.YtgncgokjbakdmaaTp3
set_option linter.all false
namespace Go.Proofs.Ytgncgokjbakdmaa
open Go.ChangeShapes Go.WideShapes Go.ChangeAt Go.RowKit Go.Lm
set_option linter.unusedSimpArgs false
set_option maxRecDepth 10000
section
variable {F : Nat → Prop} {g h h' : LHeap} {x k : Nat} {size : Int} {HV AV : LV} {hs : List RH} {ss : List SX} {Zs : List Thing} {st : RSt} {S : Nat → Prop}
theorem RFlush_ok (B : (RBox x S st).ok g) (lt : ∀ a, S a → a < g.next) (a sp : Int) : Ok Try.prog 55 [.ptr x 0, i a, i sp] g fun v h => v = i (((st.hart a).length : Int) - (goneK (st.hart a) sp).length) ∧ After (RD x) S g h (rflush st a sp) := by
  refine ok55 fun wf _ => ?_
  obtain ⟨Ts, ⟨HV, AV, hs, ss, rfl, hh, hal, hid, w⟩, Sp⟩ := box_open B lt
  have Sp0 : Sep S g g (RTs x st.size HV AV hs ss ++ []) := by rw [List.append_nil]; exact Sp
  have hln : hs.length = st.harts.length := by rw [← hh, List.length_map]
  simp (disch := omega) only [F55, J55_0]
  refine (rhart_ok Sp0 a).mono ?_
  rintro _ g ⟨rfl, rfl⟩
  by_cases hr : 0 ≤ a ∧ a < hs.length
  rotate_left
  · rw [decide_eq_false hr, rhart_out (by omega)]
    have hn : ¬ st.inR a := fun h => hr (by rw [hln]; exact h)
    simp (disch := omega) only [sh, sh2]
    unfold rflush
    rw [if_neg hn]
    exact ⟨rfl, Sp.after ⟨HV, AV, hs, ss, rfl, hh, hal, hid, w⟩⟩
  rw [decide_eq_true hr]
  obtain ⟨k, p, rfl, hk, hst, hstk⟩ := rhart_in (st := st) hh hr
  have hin : st.inR (k : Int) := by unfold RSt.inR; omega
  unfold rflush
  rw [if_pos hin, hst, Int.toNat_natCast]
  have hw := w.nd p.2 (List.mem_of_getElem? hstk)
  have hs1 := w.s1
  have hs64 := w.s2
  have hkl := (List.getElem?_eq_some_iff.1 hk).1
  have S1 := Sp.nils ktE
  simp (disch := omega) only [sh, sh2, J55_1, J55_2, J55_4]
  refine loop_n (fun n s h => ∃ (j : Nat) (V : LV), s = (V, i (j : Int)) ∧ j + n = p.2.length ∧ Sep S g h (RTs x st.size HV AV hs ss ++ [] ++ [Thing.vec ktE V (goneK (p.2.take j) sp)])) (n := p.2.length) ⟨0, .nils, rfl, by omega, by simpa [goneK] using S1⟩ ?_
  rintro n s h ⟨j, V, rfl, hj, Sj⟩
  have x0 := Sj.cell (a := x) (vs := [i st.size, HV, AV]) 0 rfl
  have Sj' : Sep S g h (RTs x st.size HV AV hs ss ++ [Thing.vec ktE V (goneK (p.2.take j) sp)]) := by rw [List.append_nil] at Sj; exact Sj
  obtain ⟨e1, e2⟩ := rh_at hk Sj'
  have R := Sj'.row (V := p.1) (E := ktE) (l := p.2) _ (rt_h hk)
  have hl := R.len (P := Try.prog) ty115
  simp only [i] at x0 e1
  cases n with
  | zero =>
    rw [List.take_of_length_le (by omega)] at Sj
    have cV : V.cell = true := (Sj.row (V := V) (E := ktE) (l := goneK p.2 sp) _ last_at).cell
    have hl2 := (Sj.row (V := V) (E := ktE) (l := goneK p.2 sp) _ last_at).len (P := Try.prog) ty115
    have hgl : (goneK p.2 sp).length ≤ p.2.length := List.length_filter_le _ _
    obtain ⟨H, est, S3, _⟩ := rset_h hk cV Sj
    simp (disch := omega) only [L55_5, J55_3, i, sh, sh2, shi, dec, x0, e1, e2, b_len, hl, hl2, est]
    rw [List.append_nil] at S3
    refine ⟨trivial, S3.after ⟨HV, AV, _, ss, rfl, by rw [List.map_set, hh], hal, hid, w.setH ?_ ?_⟩⟩
    · exact hw.1.sublist (List.filter_sublist.map _)
    · omega
  | succ n =>
    obtain ⟨y, hy, hd⟩ := drop_at (l := p.2) (k := j) (by omega)
    obtain ⟨f1, pa, po, f2, f3, f4, f5⟩ := kt_at R hy
    have hld := R.ld hy
    have hke : ktE.e = 3 := rfl
    rw [hke, f2] at hld
    have hld : cellO (some 3) po (h.get pa) = some (.agg (ktE.f y)) := by rw [← load_o]; exact hld
    have htk : goneK (p.2.take (j + 1)) sp = goneK (p.2.take j) sp ++ (if y.1.1 = sp then [] else [y]) := by
      rw [take_snoc hy, goneK, List.filter_append, List.filter_cons]
      by_cases h : y.1.1 = sp <;> simp [h, goneK]
    by_cases hys : y.1.1 = sp
    · simp (disch := omega) only [L55_5, i, sh, sh2, shi, dec, x0, e1, e2, b_len, hl, f1, f2, f5]
      refine ⟨n, by omega, j + 1, V, by simp, by omega, ?_⟩
      rw [htk, if_pos hys, List.append_nil (goneK _ _)]
      exact Sj
    · have hgl : (goneK (p.2.take j) sp).length ≤ p.2.length := Nat.le_trans (List.length_filter_le _ _) (by rw [List.length_take]; omega)
      obtain ⟨V', h2, ea, S2, cV, _, _⟩ := Sj.push (V := V) (E := ktE) (l := goneK (p.2.take j) sp) _ last_at (bytes := 24) y (cs := ktE.f y) rfl (by omega)
      rw [set_last] at S2
      rw [hke] at ea
      have hap := ap115 (V := V) (U := .slice h.next 0 1 (.ex 1)) rfl (h.alloc (.cells (ktE.f y) .ex))
      rw [ea] at hap
      have hbs := bs115_1 h y
      simp (disch := omega) only [L55_5, i, sh, sh2, shi, dec, x0, e1, e2, b_len, hl, f1, f2, f5, hld, hbs, hap]
      refine ⟨n, by omega, j + 1, V', by simp, by omega, ?_⟩
      rw [htk, if_neg hys]
      exact S2
theorem rhas_ok {V : LV} {l : List Int} (R : Row h V intE l) (hm : l.length ≤ 2 ^ 40) (a : Int) : Ok Try.prog 80 [V, i a] h fun v h' => v = .bool (decide (a ∈ l)) ∧ h' = h := by
  refine ok80 fun wf _ => ?_
  have hl := R.len (P := Try.prog) ty24
  have he : intE.e = 1 := rfl
  simp (disch := omega) only [F80, J80_0, J80_2]
  refine loop_n (fun n s h' => ∃ j : Nat, s = i (j : Int) ∧ j + n = l.length ∧ h' = h ∧ a ∉ l.take j) (n := l.length) ⟨0, rfl, by omega, rfl, by simp⟩ ?_
  rintro n s h ⟨j, rfl, hj, rfl, hna⟩
  cases n with
  | zero =>
    rw [List.take_of_length_le (by omega)] at hna
    simp (disch := omega) only [L80_3, J80_1, i, sh, sh2, shi, dec, b_len, hl]
    exact ⟨by rw [decide_eq_false hna], trivial⟩
  | succ n =>
    obtain ⟨y, hy, hd⟩ := drop_at (l := l) (k := j) (by omega)
    have hix := R.ix (k := .i64) (i := j) (by omega)
    have hld := R.ld1 hy rfl rfl
    rw [he] at hix
    by_cases hya : y = a
    · subst hya
      simp (disch := omega) only [L80_3, i, sh, sh2, shi, dec, b_len, hl, hix, hld]
      exact ⟨by rw [decide_eq_true (List.mem_of_getElem? hy)], trivial⟩
    · simp (disch := omega) only [L80_3, i, sh, sh2, shi, dec, b_len, hl, hix, hld]
      refine ⟨n, by omega, j + 1, by simp, by omega, trivial, ?_⟩
      rw [take_snoc hy, List.mem_append]
      rintro (h | h)
      · exact hna h
      · simp only [List.mem_singleton] at h; exact hya h.symm
theorem sh_at {s : SX} (hk : ss[k]? = some s) (Sp : Sep F g h (RTs x size HV AV hs ss ++ Zs)) : ixAddrL none 3 AV (.int .i64 (k : Int)) = some (AV.at 3 k) ∧ Row h s.V intE s.left ∧ ∃ a off, AV.at 3 k = .ptr a off ∧ cellO none off (h.get a) = some (.int .i64 s.id) ∧ cellO none (off + 1) (h.get a) = some (.int .i64 s.sp) ∧ cellO none (off + 2) (h.get a) = some s.V := by
  have R := Sp.row (V := AV) (E := shE) (l := ss.map SX.hd) 2 rfl
  have RV := Sp.row (V := s.V) (E := intE) (l := s.left) _ (rt_s hk)
  have hl := (List.getElem?_eq_some_iff.1 hk).1
  have h1 : (ss.map SX.hd)[k]? = some s.hd := by rw [List.getElem?_map, hk]; rfl
  obtain ⟨a, off, e, hf⟩ := R.fl h1
  refine ⟨R.ix (k := .i64) (by rw [List.length_map]; exact hl), RV, a, off, e, hf 0 _ rfl, hf 1 _ rfl, ?_⟩
  have := hf 2 _ rfl
  rw [this]
  exact congrArg some (cellOr_eq RV.cell)
theorem all_len (Sp : Sep F g h (RTs x size HV AV hs ss ++ Zs)) (g' : LHeap) : lenL Try.prog 112 AV g' = some (.int .i64 ss.length) := by
  have := (Sp.row (V := AV) (E := shE) (l := ss.map SX.hd) 2 rfl).len (P := Try.prog) ty112 g'
  rwa [List.length_map] at this
def roverB (st : RSt) (id : Int) : Bool := decide (1 ≤ id ∧ id ≤ st.all.length) && ((st.all[(id - 1).toNat]?).map fun p => p.2.isEmpty).getD false
theorem ss_at (hal : ss.map SX.pr = st.all) {j : Nat} (hj : j < st.all.length) : ∃ s, ss[j]? = some s ∧ st.all[j]? = some (s.sp, s.left) := by
  have hl : ss.length = st.all.length := by rw [← hal, List.length_map]
  have e : ss[j]? = some (ss[j]'(by omega)) := List.getElem?_eq_getElem (by omega)
  exact ⟨_, e, by rw [← hal, List.getElem?_map, e]; rfl⟩
theorem ROver_ok (B : (RBox x S st).ok g) (lt : ∀ a, S a → a < g.next) (id : Int) : Ok Try.prog 58 [.ptr x 0, i id] g fun v h => v = .bool (roverB st id) ∧ h = g := by
  refine ok58 fun wf _ => ?_
  obtain ⟨Ts, ⟨HV, AV, hs, ss, rfl, hh, hal, hid, w⟩, Sp⟩ := box_open B lt
  have Sp0 : Sep S g g (RTs x st.size HV AV hs ss ++ []) := by rw [List.append_nil]; exact Sp
  have hls : ss.length = st.all.length := by rw [← hal, List.length_map]
  have x0 := Sp.cell (a := x) (vs := [i st.size, HV, AV]) 0 rfl
  have hl := all_len Sp0
  have hall := w.al
  simp only [i] at x0
  unfold roverB
  by_cases h1 : 1 ≤ id
  rotate_left
  · simp (disch := omega) only [F58, i, sh, sh2, shi, dec]
    exact ⟨by simp [h1], trivial⟩
  by_cases h2 : id ≤ st.all.length
  rotate_left
  · simp (disch := omega) only [F58, i, sh, sh2, shi, dec, x0, b_len, hl]
    exact ⟨by simp [h2], trivial⟩
  obtain ⟨s, e1, e2⟩ := ss_at (st := st) hal (j := (id - 1).toNat) (by omega)
  obtain ⟨f1, f2, pa, po, f3, f4, f5, f6⟩ := sh_at e1 Sp0
  have hln := f2.len (P := Try.prog) ty24
  have ei : (((id - 1).toNat : Nat) : Int) = id - 1 := by omega
  rw [ei] at f1
  have hd : decide (1 ≤ id ∧ id ≤ (st.all.length : Int)) = true := decide_eq_true ⟨h1, h2⟩
  rw [hd, e2]
  simp (disch := omega) only [F58, i, sh, sh2, shi, dec, x0, b_len, hl, f1, f3, f6, hln]
  refine ⟨?_, trivial⟩
  cases hsl : s.left with
  | nil => simp
  | cons a l => simp; omega
theorem ROpen_ok (B : (RBox x S st).ok g) (lt : ∀ a, S a → a < g.next) : Ok Try.prog 59 [.ptr x 0] g fun v h => v = i ((st.all.filter fun p => !p.2.isEmpty).length) ∧ h = g := by
  refine ok59 fun wf _ => ?_
  obtain ⟨Ts, ⟨HV, AV, hs, ss, rfl, hh, hal, hid, w⟩, Sp⟩ := box_open B lt
  have Sp0 : Sep S g g (RTs x st.size HV AV hs ss ++ []) := by rw [List.append_nil]; exact Sp
  have hls : ss.length = st.all.length := by rw [← hal, List.length_map]
  have x0 := Sp.cell (a := x) (vs := [i st.size, HV, AV]) 0 rfl
  have hl := all_len Sp0
  have hall := w.al
  simp only [i] at x0
  simp (disch := omega) only [F59, J59_0, J59_1, J59_3, i]
  refine loop_n (fun n s h => ∃ j : Nat, s = (i (((st.all.take j).filter fun p => !p.2.isEmpty).length), i (j : Int)) ∧ j + n = st.all.length ∧ h = g) (n := st.all.length) ⟨0, by simp, by omega, rfl⟩ ?_
  rintro n s g ⟨j, rfl, hj, rfl⟩
  cases n with
  | zero =>
    rw [List.take_of_length_le (by omega)]
    simp (disch := omega) only [L59_4, J59_2, i, sh, sh2, shi, dec, x0, b_len, hl]
    exact ⟨trivial, trivial⟩
  | succ n =>
    obtain ⟨s, e1, e2⟩ := ss_at (st := st) hal (j := j) (by omega)
    obtain ⟨f1, f2, pa, po, f3, f4, f5, f6⟩ := sh_at e1 Sp0
    have hln := f2.len (P := Try.prog) ty24
    have hfl : ((st.all.take j).filter fun p => !p.2.isEmpty).length ≤ st.all.length := Nat.le_trans (List.length_filter_le _ _) (by rw [List.length_take]; omega)
    have htk : ((st.all.take (j + 1)).filter fun p => !p.2.isEmpty) = ((st.all.take j).filter fun p => !p.2.isEmpty) ++ (if s.left = [] then [] else [(s.sp, s.left)]) := by
      rw [take_snoc e2, List.filter_append, List.filter_cons]
      cases s.left <;> simp
    by_cases hs0 : s.left = []
    · have hz : (s.left.length : Int) = 0 := by rw [hs0]; rfl
      simp (disch := omega) only [L59_4, i, sh, sh2, shi, dec, x0, b_len, hl, f1, f3, f6, hln]
      refine ⟨n, by omega, j + 1, ?_, by omega, trivial⟩
      rw [htk, if_pos hs0]; simp
    · have hz : 0 < (s.left.length : Int) := by have := List.length_pos_iff.2 hs0; omega
      simp (disch := omega) only [L59_4, i, sh, sh2, shi, dec, x0, b_len, hl, f1, f3, f6, hln]
      refine ⟨n, by omega, j + 1, ?_, by omega, trivial⟩
      rw [htk, if_neg hs0]; simp
end
end Go.Proofs.Ytgncgokjbakdmaa
