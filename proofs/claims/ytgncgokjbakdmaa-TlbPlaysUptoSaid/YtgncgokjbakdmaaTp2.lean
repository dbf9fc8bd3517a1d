/-
  parapetref07: Fill, Flush.
-/
import Derived.Test.YtgncgokjbakdmaaTp1
set_option linter.all false
namespace Go.Proofs.Ytgncgokjbakdmaa
open Go.ChangeShapes Go.WideShapes Go.ChangeAt Go.RowKit Go.Lm
set_option linter.unusedSimpArgs false
set_option maxRecDepth 10000
theorem set_setK : ∀ {l : List KEnt} {j : Nat} {y : KEnt} {q : AKey} (e : Int), (l.map (·.1)).Nodup → l[j]? = some y → y.1 = q → l.set j (q, e) = setK l q e
  | [], j, y, q, e, _, h, _ => by simp at h
  | p :: l, 0, y, q, e, nd, h, hq => by
    simp only [List.map_cons, List.nodup_cons] at nd
    simp only [List.getElem?_cons_zero, Option.some.injEq] at h
    subst h
    rw [List.set_cons_zero, setK, List.map_cons, if_pos hq]
    congr 1
    conv => lhs; rw [← List.map_id l]
    refine List.map_congr_left fun z hz => ?_
    rw [if_neg fun hh => nd.1 (by rw [hq, ← hh]; exact List.mem_map.2 ⟨z, hz, rfl⟩)]; rfl
  | p :: l, j + 1, y, q, e, nd, h, hq => by
    simp only [List.map_cons, List.nodup_cons] at nd
    rw [List.getElem?_cons_succ] at h
    have hp : p.1 ≠ q := fun hh => nd.1 (by rw [hh, ← hq]; exact List.mem_map.2 ⟨y, List.mem_of_getElem? h, rfl⟩)
    rw [List.set_cons_succ, set_setK e nd.2 h hq, setK, setK, List.map_cons, if_neg hp]
theorem ap115 {V U : LV} (hU : U.isStr = false) (g : LHeap) : builtinL Try.prog .append [115, 115] [V, U] g = appendL 3 24 V U g := append_ok (by kernel_rfl) hU g
theorem bs115_0 (h : LHeap) : buildSliceL Try.prog 115 0 [] h = some (.slice h.next 0 0 (.ex 0), h.alloc (.cells [] .ex)) := nr (by kernel_rfl)
theorem bs115_1 (h : LHeap) (p : KEnt) : buildSliceL Try.prog 115 1 [(0, .agg (ktE.f p))] h = some (.slice h.next 0 1 (.ex 1), h.alloc (.cells (ktE.f p) .ex)) := nr (by kernel_rfl)
theorem bl117 (q : AKey) (e : Int) : buildL Try.prog 117 [(0, .agg (keyE.f q)), (1, u32V e)] = some (.agg (ktE.f (q, e))) := nr (by kernel_rfl)
theorem sz117 : sizeL Try.prog 117 = some 3 := by kernel_rfl
section
variable {F : Nat → Prop} {g h h' : LHeap} {x k : Nat} {size : Int} {HV AV : LV} {hs : List RH} {ss : List SX} {Zs : List Thing} {st : RSt} {S : Nat → Prop}
theorem rt_set_h {p : RH} (hk : hs[k]? = some p) (p' : RH) : ((RTs x size HV AV hs ss).set (3 + k) (hT p')).set 1 (Thing.vec slE HV ((hs.map (·.1)).set k p'.1)) = RTs x size HV AV (hs.set k p') ss := by
  have hl := (List.getElem?_eq_some_iff.1 hk).1
  have e1 : (RTs x size HV AV hs ss).set (3 + k) (hT p') = [Thing.cells x [i size, HV, AV], Thing.vec slE HV (hs.map (·.1)), Thing.vec shE AV (ss.map SX.hd)] ++ ((hs.set k p').map hT ++ ss.map SX.T) := by
    rw [RTs, List.set_append_right _ _ (by simp), List.set_append_left _ _ (by simp; omega)]
    have : 3 + k - [Thing.cells x [i size, HV, AV], Thing.vec slE HV (hs.map (·.1)), Thing.vec shE AV (ss.map SX.hd)].length = k := by simp
    rw [this, List.map_set]
  rw [e1, RTs, ← List.map_set]
  rfl
/-- A hart's slice is another one. -/
theorem rset_h {p : RH} {V : LV} {l : List KEnt} (hk : hs[k]? = some p) (cV : V.cell = true) (Sp : Sep F g h (RTs x size HV AV hs ss ++ Zs ++ [Thing.vec ktE V l])) :
    ∃ h', storeV 1 (HV.at 1 k) V h = some h' ∧ Sep F g h' (RTs x size HV AV (hs.set k (V, l)) ss ++ Zs) ∧ h'.next = h.next := by
  have hl := (List.getElem?_eq_some_iff.1 hk).1
  have h1 : (hs.map (·.1))[k]? = some p.1 := by rw [List.getElem?_map, hk]; rfl
  obtain ⟨a, off, H, e1, e2, S1, n1, _⟩ := Sp.stf (V := HV) (E := slE) (l := hs.map (·.1)) 1 rfl (k := k) (j := 0) V cV h1 (by decide) (by simp [slE, cellOr_eq cV])
  refine ⟨H, ?_, ?_, n1⟩
  · have he : slE.e = 1 := rfl
    rw [he] at e1
    rw [e1]; exact e2
  · have S2 : Sep F g H ((RTs x size HV AV hs ss).set 1 (Thing.vec slE HV ((hs.map (·.1)).set k V)) ++ Zs ++ [Thing.vec ktE V l]) := S1
    have hlen : 3 + k < ((RTs x size HV AV hs ss).set 1 (Thing.vec slE HV ((hs.map (·.1)).set k V))).length := by rw [List.length_set]; simp [RTs]; omega
    have hi : ((RTs x size HV AV hs ss).set 1 (Thing.vec slE HV ((hs.map (·.1)).set k V)) ++ Zs)[3 + k]? = some (hT p) := by
      rw [List.getElem?_append_left hlen, List.getElem?_set_ne (by omega)]
      have := rt_h (x := x) (size := size) (HV := HV) (AV := AV) (ss := ss) (Zs := []) hk
      rwa [List.append_nil] at this
    have S3 := S2.move hi
    rw [List.set_append_left _ _ hlen, List.set_comm _ _ (by omega)] at S3
    have := rt_set_h (x := x) (size := size) (HV := HV) (AV := AV) (ss := ss) hk (V, l)
    rw [show (hT (V, l)) = Thing.vec ktE V l from rfl] at this
    rw [this] at S3
    exact S3
def RSt.inR (st : RSt) (a : Int) : Prop := 0 ≤ a ∧ a < st.harts.length
instance (st : RSt) (a : Int) : Decidable (st.inR a) := by unfold RSt.inR; infer_instance
def rfill (st : RSt) (a : Int) (q : AKey) (e : Int) : RSt := if st.inR a then { st with harts := st.harts.set a.toNat (fillK st.size (st.hart a) q e) } else st
def rflush (st : RSt) (a sp : Int) : RSt := if st.inR a then { st with harts := st.harts.set a.toNat (goneK (st.hart a) sp) } else st
theorem RWf.setH (w : RWf st) {k : Nat} {l : List KEnt} (h1 : (l.map (·.1)).Nodup) (h2 : l.length ≤ st.size) : RWf { st with harts := st.harts.set k l } :=
  ⟨w.s1, w.s2, by simpa using w.h8, fun l' hl' => by
    rcases List.mem_or_eq_of_mem_set hl' with h | rfl
    · exact w.nd l' h
    · exact ⟨h1, h2⟩, w.al, w.le⟩
/-- A key and an entry are appended to a hart's slice. -/
theorem rpush_ok {c : Nat} {q : AKey} (e : Int) {p : RH} (hk : hs[k]? = some p) (hp : p.2.length ≤ 64) (Sp : Sep F g h (RTs x size HV AV hs ss ++ [Thing.cells c (keyE.f q)])) {K : LV → LHeap → Prop}
    (hK : ∀ h' V, Sep F g h' (RTs x size HV AV (hs.set k (V, p.2 ++ [(q, e)])) ss) → K (i 0) h') : J54_3 (.ptr x 0) (i (k : Int)) (u32V e) (.ptr c 0) h K := by
  have x0 := Sp.cell (a := x) (vs := [i size, HV, AV]) 0 rfl
  obtain ⟨e1, e2⟩ := rh_at hk Sp
  have xc := Sp.cell (a := c) (vs := keyE.f q) (RTs x size HV AV hs ss).length (by simp)
  have ih : (RTs x size HV AV hs ss ++ [Thing.cells c (keyE.f q)])[3 + k]? = some (Thing.vec ktE p.1 p.2) := rt_h hk
  obtain ⟨V', h2, ea, S2, cV, _, _⟩ := Sp.push (V := p.1) (E := ktE) (l := p.2) (3 + k) ih (bytes := 24) (q, e) (cs := ktE.f (q, e)) rfl (by omega)
  have he : ktE.e = 3 := rfl
  rw [he] at ea
  have hap := ap115 (V := p.1) (U := .slice h.next 0 1 (.ex 1)) rfl (h.alloc (.cells (ktE.f (q, e)) .ex))
  rw [ea] at hap
  have hbs := bs115_1 h (q, e)
  have S1 := Sp.temp (.cells (ktE.f (q, e)) .ex)
  have x1 := S1.cell (a := x) (vs := [i size, HV, AV]) 0 rfl
  obtain ⟨_, e4⟩ := rh_at hk S1
  -- the new row in its place
  have hl := (List.getElem?_eq_some_iff.1 hk).1
  have e0 : (RTs x size HV AV hs ss ++ [Thing.cells c (keyE.f q)]).set (3 + k) (Thing.vec ktE V' (p.2 ++ [(q, e)])) = (RTs x size HV AV hs ss).set (3 + k) (hT (V', p.2 ++ [(q, e)])) ++ [Thing.cells c (keyE.f q)] := by
    rw [List.set_append_left _ _ (by simp [RTs]; omega)]; rfl
  rw [e0] at S2
  have S3 := S2.init
  have i1 : ((RTs x size HV AV hs ss).set (3 + k) (hT (V', p.2 ++ [(q, e)])))[1]? = some (Thing.vec slE HV (hs.map (·.1))) := by
    rw [List.getElem?_set_ne (by omega)]; rfl
  have i0 : ((RTs x size HV AV hs ss).set (3 + k) (hT (V', p.2 ++ [(q, e)])))[0]? = some (Thing.cells x [i size, HV, AV]) := by
    rw [List.getElem?_set_ne (by omega)]; rfl
  have x2 := S3.cell 0 i0
  have h1 : (hs.map (·.1))[k]? = some p.1 := by rw [List.getElem?_map, hk]; rfl
  obtain ⟨a, off, H, e5, e6, S4, n4, _⟩ := S3.stf (V := HV) (E := slE) (l := hs.map (·.1)) 1 i1 (k := k) (j := 0) V' cV h1 (by decide) (by simp [slE, cellOr_eq cV])
  have hes : slE.e = 1 := rfl
  rw [hes] at e5
  rw [Nat.add_zero, ← e5] at e6
  rw [rt_set_h hk (V', p.2 ++ [(q, e)])] at S4
  have hkc : cellO (some 2) 0 (some (.cells (keyE.f q) .ex)) = some (.agg (keyE.f q)) := rfl
  simp only [i] at x0 x1 x2 e1
  simp (disch := omega) only [J54_3, i, sh, sh2, x0, e1, e2, xc, hkc, bl117, hbs, hap, x1, x2, e4, e6, true_and, and_true]
  exact hK _ _ S4
end
end Go.Proofs.Ytgncgokjbakdmaa
