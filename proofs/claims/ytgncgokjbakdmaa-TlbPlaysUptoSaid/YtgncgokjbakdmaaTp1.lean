/-
  parapetref07: what it stands for; hart, Look.
-/
import Derived.Test.YtgncgokjbakdmaaTlO
import Derived.Test.YtgncgokjbakdmaaLm7x
set_option linter.all false
namespace Go.Proofs.Ytgncgokjbakdmaa
open Go.ChangeShapes Go.WideShapes Go.ChangeAt Go.RowKit Go.Lm
set_option linter.unusedSimpArgs false
set_option maxRecDepth 10000
structure SX where
  id : Int
  sp : Int
  V : LV
  left : List Int
def cellOr (V : LV) : LV := if V.cell then V else .nils
theorem cellOr_cell (V : LV) : (cellOr V).cell = true := by
  unfold cellOr
  split
  · assumption
  · rfl
theorem cellOr_eq {V : LV} (h : V.cell = true) : cellOr V = V := if_pos h
def slE : Enc LV := ⟨fun V => [cellOr V], 1, fun _ => rfl, fun V v h => by
  simp only [List.mem_cons, List.not_mem_nil, or_false] at h
  subst h; exact cellOr_cell V, by decide⟩
def shE : Enc (Int × Int × LV) := ⟨fun s => [i s.1, i s.2.1, cellOr s.2.2], 3, fun _ => rfl, fun s v h => by
  simp only [List.mem_cons, List.not_mem_nil, or_false] at h
  rcases h with rfl | rfl | rfl
  · rfl
  · rfl
  · exact cellOr_cell _, by decide⟩
def ktE : Enc KEnt := ⟨fun p => [i p.1.1, i p.1.2, u32V p.2], 3, fun _ => rfl, fun s v h => by
  simp only [List.mem_cons, List.not_mem_nil, or_false] at h
  rcases h with rfl | rfl | rfl <;> rfl, by decide⟩
def SX.hd (s : SX) : Int × Int × LV := (s.id, s.sp, s.V)
def SX.pr (s : SX) : Int × List Int := (s.sp, s.left)
def SX.T (s : SX) : Thing := Thing.vec intE s.V s.left
abbrev RH := LV × List KEnt
def hT (p : RH) : Thing := Thing.vec ktE p.1 p.2
def RTs (x : Nat) (size : Int) (HV AV : LV) (hs : List RH) (ss : List SX) : List Thing :=
  [Thing.cells x [i size, HV, AV], Thing.vec slE HV (hs.map (·.1)), Thing.vec shE AV (ss.map SX.hd)] ++ (hs.map hT ++ ss.map SX.T)
structure RSt where
  size : Int
  harts : List (List KEnt)
  all : List (Int × List Int)
structure RWf (st : RSt) : Prop where
  s1 : 1 ≤ st.size
  s2 : st.size ≤ 64
  h8 : st.harts.length ≤ 8
  nd : ∀ l ∈ st.harts, (l.map (·.1)).Nodup ∧ l.length ≤ st.size
  al : st.all.length ≤ 1048576
  le : ∀ p ∈ st.all, p.2.length ≤ 8
def RD (x : Nat) (st : RSt) (Ts : List Thing) : Prop := ∃ HV AV hs ss, Ts = RTs x st.size HV AV hs ss ∧ hs.map (·.2) = st.harts ∧ ss.map SX.pr = st.all ∧ (∀ (j : Nat) s, ss[j]? = some s → s.id = j + 1) ∧ RWf st
abbrev RBox (x : Nat) (S : Nat → Prop) (st : RSt) : Thing := Thing.box (RD x) S st
def RSt.hart (st : RSt) (a : Int) : List KEnt := if 0 ≤ a then (st.harts[a.toNat]?).getD [] else []
theorem ty111 : Try.prog.underlying 111 = some (.slice 115) := by kernel_rfl
theorem ty115 : Try.prog.underlying 115 = some (.slice 117) := by kernel_rfl
theorem ty112 : Try.prog.underlying 112 = some (.slice 128) := by kernel_rfl
theorem ty65 : Try.prog.underlying 65 = some (.pointer 114) := by kernel_rfl
section
variable {F : Nat → Prop} {g h h' : LHeap} {x k : Nat} {size : Int} {HV AV : LV} {hs : List RH} {ss : List SX} {Zs : List Thing} {st : RSt} {S : Nat → Prop}
theorem rt_h {p : RH} (hk : hs[k]? = some p) : (RTs x size HV AV hs ss ++ Zs)[3 + k]? = some (hT p) := by
  have hl := (List.getElem?_eq_some_iff.1 hk).1
  simp only [RTs]
  rw [List.getElem?_append_left (by simp; omega), List.getElem?_append_right (by simp), List.getElem?_append_left (by simp; omega)]
  have : 3 + k - [Thing.cells x [i size, HV, AV], Thing.vec slE HV (hs.map (·.1)), Thing.vec shE AV (ss.map SX.hd)].length = k := by simp
  rw [this, List.getElem?_map, hk]; rfl
theorem rt_s {s : SX} (hk : ss[k]? = some s) : (RTs x size HV AV hs ss ++ Zs)[3 + hs.length + k]? = some s.T := by
  have hl := (List.getElem?_eq_some_iff.1 hk).1
  simp only [RTs]
  rw [List.getElem?_append_left (by simp; omega), List.getElem?_append_right (by simp; omega), List.getElem?_append_right (by simp; omega)]
  have : 3 + hs.length + k - [Thing.cells x [i size, HV, AV], Thing.vec slE HV (hs.map (·.1)), Thing.vec shE AV (ss.map SX.hd)].length - (hs.map hT).length = k := by simp; omega
  rw [this, List.getElem?_map, hk]; rfl
/-- A hart's slice, as it is loaded. -/
theorem rh_at {p : RH} (hk : hs[k]? = some p) (Sp : Sep F g h (RTs x size HV AV hs ss ++ Zs)) : ixAddrL none 1 HV (.int .i64 (k : Int)) = some (HV.at 1 k) ∧ loadV none (HV.at 1 k) h = some p.1 := by
  have R := Sp.row (V := HV) (E := slE) (l := hs.map (·.1)) 1 rfl
  have cV : p.1.cell = true := (Sp.row (V := p.1) (E := ktE) (l := p.2) _ (rt_h hk)).cell
  have hl := (List.getElem?_eq_some_iff.1 hk).1
  have h1 : (hs.map (·.1))[k]? = some p.1 := by rw [List.getElem?_map, hk]; rfl
  exact ⟨R.ix (k := .i64) (by rw [List.length_map]; exact hl), R.ld1 h1 rfl (by simp [slE, cellOr_eq cV])⟩
theorem rhart_ok (Sp : Sep F g h (RTs x size HV AV hs ss ++ Zs)) (a : Int) : Ok Try.prog 79 [.ptr x 0, i a] h fun v h' => v = .bool (decide (0 ≤ a ∧ a < hs.length)) ∧ h' = h := by
  refine ok79 fun _ _ => ?_
  have x0 := Sp.cell (a := x) (vs := [i size, HV, AV]) 0 rfl
  have hl := (Sp.row (V := HV) (E := slE) (l := hs.map (·.1)) 1 rfl).len (P := Try.prog) ty111
  rw [List.length_map] at hl
  by_cases h0 : 0 ≤ a
  · simp (disch := omega) only [F79, i, sh, sh2, shi, dec, x0, b_len, hl]
    exact ⟨by simp [h0], trivial⟩
  · simp (disch := omega) only [F79, i, sh, sh2, shi, dec]
    exact ⟨by simp [h0], trivial⟩
theorem kt_at {V : LV} {l : List KEnt} (R : Row h V ktE l) {j : Nat} {p : KEnt} (hj : l[j]? = some p) : ixAddrL none 3 V (.int .i64 (j : Int)) = some (V.at 3 j) ∧ ∃ a off, V.at 3 j = .ptr a off ∧ cellO (some 2) off (h.get a) = some (.agg (keyE.f p.1)) ∧ cellO none (off + 2) (h.get a) = some (u32V p.2) ∧ cellO none off (h.get a) = some (i p.1.1) := by
  obtain ⟨a, off, e, hf, hag⟩ := R.fla hj
  refine ⟨R.ix (k := .i64) (List.getElem?_eq_some_iff.1 hj).1, a, off, e, ?_, hf 2 _ rfl, hf 0 _ rfl⟩
  have h2 := hag 0 2 (by decide)
  exact h2
theorem rhart_in {a : Int} (hh : hs.map (·.2) = st.harts) (hr : 0 ≤ a ∧ a < hs.length) : ∃ (k : Nat) (p : RH), a = k ∧ hs[k]? = some p ∧ st.hart a = p.2 ∧ st.harts[k]? = some p.2 := by
  obtain ⟨k, rfl⟩ := Int.eq_ofNat_of_zero_le hr.1
  have hk : k < hs.length := by omega
  have e : hs[k]? = some hs[k] := List.getElem?_eq_getElem hk
  have e2 : st.harts[k]? = some hs[k].2 := by rw [← hh, List.getElem?_map, e]; rfl
  refine ⟨k, hs[k], rfl, e, ?_, e2⟩
  unfold RSt.hart
  rw [if_pos (by omega), Int.toNat_natCast, e2]; rfl
theorem rhart_out {a : Int} (hr : ¬ (0 ≤ a ∧ a < st.harts.length)) : st.hart a = [] := by
  unfold RSt.hart
  split
  · rw [List.getElem?_eq_none (by omega)]; rfl
  · rfl
theorem RLook_ok (B : (RBox x S st).ok g) (lt : ∀ a, S a → a < g.next) (a : Int) (q : AKey) : Ok Try.prog 53 [.ptr x 0, i a, .agg (keyE.f q)] g fun v h => v = .tuple [u32V ((lkp (st.hart a) q).getD 0), .bool (lkp (st.hart a) q).isSome] ∧ Fr noF g h := by
  refine ok53 fun wf _ => ?_
  obtain ⟨Ts, ⟨HV, AV, hs, ss, rfl, hh, hal, hid, w⟩, Sp⟩ := box_open B lt
  have Sp0 : Sep S g g (RTs x st.size HV AV hs ss ++ []) := by rw [List.append_nil]; exact Sp
  have S1 := Sp0.temp (.cells (keyE.f q) .ex)
  have hln : hs.length = st.harts.length := by rw [← hh, List.length_map]
  simp (disch := omega) only [F53, J53_0, new_key]
  refine (rhart_ok S1 a).mono ?_
  rintro _ h1 ⟨rfl, rfl⟩
  have fr : Fr noF g (g.alloc (.cells (keyE.f q) .ex)) := Fr.alloc _ _
  by_cases hr : 0 ≤ a ∧ a < hs.length
  rotate_left
  · rw [decide_eq_false hr, rhart_out (by omega)]
    simp (disch := omega) only [sh, sh2]
    exact ⟨rfl, fr⟩
  rw [decide_eq_true hr]
  obtain ⟨k, p, rfl, hk, hst, hstk⟩ := rhart_in (st := st) hh hr
  rw [hst]
  have x0 := S1.cell (a := x) (vs := [i st.size, HV, AV]) 0 rfl
  obtain ⟨e1, e2⟩ := rh_at hk S1
  have R := S1.row (V := p.1) (E := ktE) (l := p.2) _ (rt_h hk)
  have hl := R.len (P := Try.prog) ty115
  have hp64 := (w.nd p.2 (List.mem_of_getElem? hstk)).2
  have hs64 := w.s2
  have hq : (g.alloc (.cells (keyE.f q) .ex)).get g.next = some (.cells (keyE.f q) .ex) := get_alloc_eq _ _
  simp only [i] at x0 e1
  simp (disch := omega) only [sh, sh2, J53_1, J53_3]
  refine loop_n (fun n s h => ∃ j : Nat, s = i (j : Int) ∧ j + n = p.2.length ∧ h = g.alloc (.cells (keyE.f q) .ex) ∧ lkp p.2 q = lkp (p.2.drop j) q) (n := p.2.length) ⟨0, rfl, by omega, rfl, rfl⟩ ?_
  rintro n s h ⟨j, rfl, hj, rfl, hlk⟩
  cases n with
  | zero =>
    rw [List.drop_of_length_le (by omega)] at hlk
    simp (disch := omega) only [L53_4, J53_2, i, sh, sh2, shi, dec, x0, e1, e2, b_len, hl]
    rw [hlk]
    exact ⟨rfl, fr⟩
  | succ n =>
    obtain ⟨y, hy, hd⟩ := drop_at (l := p.2) (k := j) (by omega)
    rw [hd] at hlk
    obtain ⟨f1, pa, po, f2, f3, f4, f5⟩ := kt_at R hy
    have heq := key_eq y.1 q
    simp only [lkp] at hlk
    by_cases hyq : y.1 = q
    · rw [if_pos hyq] at heq hlk
      simp (disch := omega) only [L53_4, i, sh, sh2, shi, dec, x0, e1, e2, b_len, hl, f1, f2, f3, f4, hq, key_o, heq]
      rw [hlk]
      exact ⟨rfl, fr⟩
    · rw [if_neg hyq] at heq hlk
      simp (disch := omega) only [L53_4, i, sh, sh2, shi, dec, x0, e1, e2, b_len, hl, f1, f2, f3, f4, hq, key_o, heq]
      exact ⟨n, by omega, j + 1, by simp, by omega, trivial, hlk⟩
end
end Go.Proofs.Ytgncgokjbakdmaa
