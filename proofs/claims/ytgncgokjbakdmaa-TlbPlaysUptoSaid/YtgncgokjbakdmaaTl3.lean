/-
  tlb in the heap: harts, shootdowns; forget.
-/
import Derived.Test.YtgncgokjbakdmaaTl2
set_option linter.all false
namespace Go.Proofs.Ytgncgokjbakdmaa
open Go.ChangeShapes Go.WideShapes Go.ChangeAt Go.RowKit Go.Lm
set_option linter.unusedSimpArgs false
structure HX where
  m : Nat
  V : LV
  ord : List AKey
  mp : AKey → Option LV
  n : Nat
def hdE : Enc (Nat × LV) := ⟨fun s => [.map s.1, if s.2.cell then s.2 else .nils], 2, fun _ => rfl, fun s v h => by
  simp only [List.mem_cons, List.not_mem_nil, or_false] at h
  rcases h with rfl | rfl
  · rfl
  · split
    · assumption
    · rfl, by decide⟩
def HX.hd (x : HX) : Nat × LV := (x.m, x.V)
def HX.mT (x : HX) : Thing := Thing.map x.m keyK.k x.mp x.n
def HX.vT (x : HX) : Thing := Thing.vec keyE x.V x.ord
def TlTs (t : Nat) (size : Int) (HS : LV) (begun : Int) (om : Nat) (op : Int → Option LV) (no : Nat) (hs : List HX) : List Thing :=
  [Thing.cells t [i size, HS, i begun, .map om], Thing.vec hdE HS (hs.map HX.hd), Thing.map om intK.k op no] ++ (hs.map HX.mT ++ hs.map HX.vT)
section
variable {F : Nat → Prop} {g h h' : LHeap} {t om no k : Nat} {size begun : Int} {HS : LV} {op : Int → Option LV} {hs : List HX} {x : HX}
theorem tl_m (hk : hs[k]? = some x) : (TlTs t size HS begun om op no hs)[3 + k]? = some x.mT := by
  have hl := (List.getElem?_eq_some_iff.1 hk).1
  unfold TlTs
  rw [List.getElem?_append_right (by simp), List.getElem?_append_left (by simp; omega)]
  simp [hk]
theorem tl_v (hk : hs[k]? = some x) : (TlTs t size HS begun om op no hs)[3 + hs.length + k]? = some x.vT := by
  unfold TlTs
  rw [List.getElem?_append_right (by simp; omega), List.getElem?_append_right (by simp; omega)]
  have : 3 + hs.length + k - [Thing.cells t [i size, HS, i begun, .map om], Thing.vec hdE HS (hs.map HX.hd), Thing.map om intK.k op no].length - (hs.map HX.mT).length = k := by simp; omega
  rw [this]
  simp [hk]
theorem map_set_same {A B : Type} {f : A → B} {l : List A} {k : Nat} {x y : A} (hk : l[k]? = some x) (h : f y = f x) : (l.set k y).map f = l.map f := by
  obtain ⟨hl, rfl⟩ := List.getElem?_eq_some_iff.1 hk
  rw [List.map_set, h]
  apply List.ext_getElem?
  intro j
  rw [List.getElem?_set]
  split
  · rename_i e
    subst e
    simp [hl]
  · rfl
theorem tl_set_m (hk : hs[k]? = some x) (mp : AKey → Option LV) (n : Nat) : (TlTs t size HS begun om op no hs).set (3 + k) (Thing.map x.m keyK.k mp n) = TlTs t size HS begun om op no (hs.set k { x with mp := mp, n := n }) := by
  have hl := (List.getElem?_eq_some_iff.1 hk).1
  unfold TlTs
  rw [map_set_same (f := HX.hd) (y := { x with mp := mp, n := n }) hk rfl, map_set_same (f := HX.vT) (y := { x with mp := mp, n := n }) hk rfl, List.set_append_right _ _ (by simp), List.set_append_left _ _ (by simp; omega), List.map_set]
  congr 3
  simp
theorem tl_set_v (hk : hs[k]? = some x) (V : LV) (ord : List AKey) : ((TlTs t size HS begun om op no hs).set (3 + hs.length + k) (Thing.vec keyE V ord)).set 1 (Thing.vec hdE HS ((hs.map HX.hd).set k (x.m, V))) = TlTs t size HS begun om op no (hs.set k { x with V := V, ord := ord }) := by
  have hl := (List.getElem?_eq_some_iff.1 hk).1
  have e1 : (TlTs t size HS begun om op no hs).set (3 + hs.length + k) (Thing.vec keyE V ord) = [Thing.cells t [i size, HS, i begun, .map om], Thing.vec hdE HS (hs.map HX.hd), Thing.map om intK.k op no] ++ (hs.map HX.mT ++ (hs.map HX.vT).set k (Thing.vec keyE V ord)) := by
    unfold TlTs
    rw [List.set_append_right _ _ (by simp; omega), List.set_append_right _ _ (by simp; omega)]
    have e : 3 + hs.length + k - [Thing.cells t [i size, HS, i begun, .map om], Thing.vec hdE HS (hs.map HX.hd), Thing.map om intK.k op no].length - (hs.map HX.mT).length = k := by simp; omega
    rw [e]
  rw [e1, List.set_append_left _ _ (by simp)]
  unfold TlTs
  rw [map_set_same (f := HX.mT) (y := { x with V := V, ord := ord }) hk rfl, List.map_set, List.map_set]
  rfl
theorem is_ok (S : Sep F g h (TlTs t size HS begun om op no hs)) (a : Int) : Ok Try.prog 44 [.ptr t 0, i a] h fun v h' => v = .bool (decide (0 ≤ a ∧ a < hs.length)) ∧ h' = h := by
  refine ok44 fun wf lt => ?_
  have x0 := S.cell 0 rfl
  have hl := (S.row (V := HS) 1 rfl).len (P := Try.prog) ty90
  rw [List.length_map] at hl
  have harts : Ok Try.prog 36 [.ptr t 0] h fun v h' => v = i hs.length ∧ h' = h := by
    refine ok36 fun wf lt => ?_
    simp (disch := omega) only [F36, i, sh, sh2, nil_p ty36 true, x0, b_len, hl]
    exact ⟨trivial, trivial⟩
  by_cases h0 : 0 ≤ a
  · simp (disch := omega) only [F44, i, sh, sh2, shi, dec]
    refine harts.mono ?_
    rintro _ _ ⟨rfl, rfl⟩
    simp (disch := omega) only [i, sh, sh2, shi]
    exact ⟨by simp [h0], trivial⟩
  · simp (disch := omega) only [F44, i, sh, sh2, shi, dec]
    exact ⟨by simp [h0], trivial⟩
/-- What stands in a hart's row. -/
theorem hd_at {Ts : List Thing} {l : List (Nat × LV)} (S : Sep F g h Ts) (hi : Ts[1]? = some (Thing.vec hdE HS l)) {m : Nat} {V : LV} (hk : l[k]? = some (m, V)) (cV : V.cell = true) :
    ixAddrL none 2 HS (.int .i64 (k : Int)) = some (HS.at 2 k) ∧ ∃ a off, HS.at 2 k = .ptr a off ∧ cellO none off (h.get a) = some (.map m) ∧ cellO none (off + 1) (h.get a) = some V := by
  have R := S.row (V := HS) 1 hi
  obtain ⟨a, off, e, hf⟩ := R.fl hk
  refine ⟨R.ix (k := .i64) (List.getElem?_eq_some_iff.1 hk).1, a, off, e, hf 0 _ rfl, ?_⟩
  have := hf 1 _ rfl
  simpa [cV] using this
theorem clos72 {c : Nat} {sp : Int} {q : AKey} (hc : h.get c = some (.cells [i sp] .ex)) : Ok Try.prog 72 [.agg (keyE.f q), .ptr c 0] h fun v h' => v = .bool (q.1 == sp) ∧ Fr noF h h' := by
  refine ok72 fun wf lt => ?_
  have hne : (h.alloc (.cells (keyE.f q) .ex)).get c = some (.cells [i sp] .ex) := by rw [get_alloc_ne _ _ (Nat.ne_of_lt (wf.lt c _ hc))]; exact hc
  have hq : cellO none 0 (some (.cells (keyE.f q) .ex)) = some (i q.1) := rfl
  simp (disch := omega) only [F72, new_key, sh, sh2, hne, hq, i, shi]
  exact ⟨trivial, Fr.alloc _ _⟩
theorem clos74 {c : Nat} {sp : Int} {q : AKey} {v : LV} (hc : h.get c = some (.cells [i sp] .ex)) : Ok Try.prog 74 [.agg (keyE.f q), v, .ptr c 0] h fun v h' => v = .bool (q.1 == sp) ∧ Fr noF h h' := by
  refine ok74 fun wf lt => ?_
  have hne : (h.alloc (.cells (keyE.f q) .ex)).get c = some (.cells [i sp] .ex) := by rw [get_alloc_ne _ _ (Nat.ne_of_lt (wf.lt c _ hc))]; exact hc
  have hq : cellO none 0 (some (.cells (keyE.f q) .ex)) = some (i q.1) := rfl
  simp (disch := omega) only [F74, new_key, sh, sh2, hne, hq, i, shi]
  exact ⟨trivial, Fr.alloc _ _⟩
theorem cv72 (q p : LV) (h : LHeap) (K : LV → LHeap → Prop) : callV Try.prog (Ok Try.prog) (.func (.func 72) [] [p]) [q] h K = Ok Try.prog 72 [q, p] h K := callV_f (by kernel_rfl)
theorem cv74 (q v p : LV) (h : LHeap) (K : LV → LHeap → Prop) : callV Try.prog (Ok Try.prog) (.func (.func 74) [] [p]) [q, v] h K = Ok Try.prog 74 [q, v, p] h K := callV_f (by kernel_rfl)
set_option maxRecDepth 4000 in
theorem forget_ok (S : Sep F g h (TlTs t size HS begun om op no hs)) (hk : hs[k]? = some x) (hn : x.ord.length < 2 ^ 62) (sp : Int) : Ok Try.prog 47 [HS.at 2 k, i sp] h fun v h' => v = i (x.ord.length - (x.ord.filter fun q => !(q.1 == sp)).length) ∧
    ∃ V' n', Sep F g h' (TlTs t size HS begun om op no (hs.set k ⟨x.m, V', x.ord.filter fun q => !(q.1 == sp), fun q => if (q.1 == sp) = true then none else x.mp q, n'⟩)) := by
  refine ok47 fun wf lt => ?_
  have hkl := (List.getElem?_eq_some_iff.1 hk).1
  have hn0 : newL (i sp) h = some (.ptr h.next 0, h.alloc (.cells [i sp] .ex)) := new_cell _ rfl
  have S1 := S.new [i sp]
  have hd : (hs.map HX.hd)[k]? = some (x.m, x.V) := by rw [List.getElem?_map, hk]; rfl
  have iv := tl_v (t := t) (size := size) (HS := HS) (begun := begun) (om := om) (op := op) (no := no) hk
  have ivl := (List.getElem?_eq_some_iff.1 iv).1
  have im := tl_m (t := t) (size := size) (HS := HS) (begun := begun) (om := om) (op := op) (no := no) hk
  have iml := (List.getElem?_eq_some_iff.1 im).1
  have iv1 : (TlTs t size HS begun om op no hs ++ [Thing.cells h.next [i sp]])[3 + hs.length + k]? = some (Thing.vec keyE x.V x.ord) := by rw [List.getElem?_append_left ivl]; exact iv
  have il : (TlTs t size HS begun om op no hs ++ [Thing.cells h.next [i sp]])[(TlTs t size HS begun om op no hs).length]? = some (Thing.cells h.next [i sp]) := by simp
  have RV := S1.row (3 + hs.length + k) iv1
  have cV := RV.cell
  obtain ⟨_, a, off, hat, l0, l1⟩ := hd_at S1 rfl hd cV
  have hl1 := RV.len (P := Try.prog) ty50
  rw [hat]
  simp (disch := omega) only [F47, hn0, i, sh, sh2, l1, b_len, hl1]
  have ltV : ∀ a, x.V.obj = some a → a < (h.alloc (.cells [i sp] .ex)).next := fun b hb => S1.lt (3 + hs.length + k) iv1 hb
  have neV : x.V.obj ≠ some h.next := fun e => S1.apart iv1 il (by omega) (a := h.next) e rfl
  refine (deleteFunc71_ok (p := fun q => q.1 == sp) RV (S1.grow _ iv1) (S1.mine _ iv1) ltV (by omega) fun h1 q K f1 hK => ?_).mono ?_
  · rw [cv72]
    refine (clos72 (sp := sp) ((f1.eq _ (Nat.lt_succ_self _) neV).trans (get_alloc_eq _ _))).mono ?_
    rintro _ h2 ⟨rfl, f2⟩
    exact hK h2 f2
  rintro V' h3 ⟨R3, G3, M3, f3, o3⟩
  have S3 := S1.put (3 + hs.length + k) iv1 (Thing.vec keyE V' (x.ord.filter fun q => !(q.1 == sp))) f3 ⟨R3, G3, M3⟩ fun b hb => ⟨.inl (o3 b hb), Nat.lt_of_lt_of_le (ltV b (o3 b hb)) f3.le⟩
  rw [List.set_append_left _ _ ivl] at S3
  have i1 : ((TlTs t size HS begun om op no hs).set (3 + hs.length + k) (Thing.vec keyE V' (x.ord.filter fun q => !(q.1 == sp))) ++ [Thing.cells h.next [i sp]])[1]? = some (Thing.vec hdE HS (hs.map HX.hd)) := by
    rw [List.getElem?_append_left (by simp [TlTs]), List.getElem?_set_ne (by omega)]; rfl
  have c3 := R3.cell
  obtain ⟨a', off', h4, hat', est, S4, n4, f4⟩ := S3.stf 1 i1 (k := k) (j := 1) (x.m, V') (v := V') c3 hd (by decide) (by simp [hdE, c3, HX.hd])
  have hat2 : hdE.e = 2 := rfl
  rw [hat2, hat] at hat'
  cases hat'
  simp (disch := omega) only [i, sh, sh2, est]
  rw [List.set_append_left _ _ (by simp [TlTs]), tl_set_v hk] at S4
  have hk4 : (hs.set k { x with V := V', ord := x.ord.filter fun q => !(q.1 == sp) })[k]? = some { x with V := V', ord := x.ord.filter fun q => !(q.1 == sp) } := by rw [List.getElem?_set_self hkl]
  have hd4 : ((hs.set k { x with V := V', ord := x.ord.filter fun q => !(q.1 == sp) }).map HX.hd)[k]? = some (x.m, V') := by rw [List.getElem?_map, hk4]; rfl
  obtain ⟨_, a4, off4, hat4, l40, l41⟩ := hd_at S4 rfl hd4 c3
  rw [hat] at hat4
  cases hat4
  simp (disch := omega) only [i, sh, sh2, l40]
  have im4 := tl_m (t := t) (size := size) (HS := HS) (begun := begun) (om := om) (op := op) (no := no) hk4
  have iml4 := (List.getElem?_eq_some_iff.1 im4).1
  have im5 : (TlTs t size HS begun om op no (hs.set k { x with V := V', ord := x.ord.filter fun q => !(q.1 == sp) }) ++ [Thing.cells h.next [i sp]])[3 + k]? = some (Thing.map x.m keyK.k x.mp x.n) := by rw [List.getElem?_append_left iml4]; exact im4
  have il4 : (TlTs t size HS begun om op no (hs.set k { x with V := V', ord := x.ord.filter fun q => !(q.1 == sp) }) ++ [Thing.cells h.next [i sp]])[(TlTs t size HS begun om op no (hs.set k { x with V := V', ord := x.ord.filter fun q => !(q.1 == sp) })).length]? = some (Thing.cells h.next [i sp]) := by simp
  have xc := S4.cell _ il4
  have nem : h.next ≠ x.m := fun e => S4.apart im5 il4 (by omega) (a := h.next) e rfl
  have ltc : h.next < h4.next := S4.lt _ il4 rfl
  refine (mapsDelete73_ok (p := fun q => q.1 == sp) S4 (3 + k) im5 fun h1 q v K f1 hK => ?_).mono ?_
  · rw [cv74]
    refine (clos74 (sp := sp) ((f1.eq _ ltc nem).trans xc)).mono ?_
    rintro _ h2 ⟨rfl, f2⟩
    exact hK h2 f2
  rintro _ h6 ⟨rfl, n', S6, f6⟩
  rw [List.set_append_left _ _ iml4, tl_set_m hk4, List.set_set] at S6
  have hk6 : (hs.set k { x with V := V', ord := x.ord.filter fun q => !(q.1 == sp), mp := fun q => if (q.1 == sp) = true then none else x.mp q, n := n' })[k]? = some { x with V := V', ord := x.ord.filter fun q => !(q.1 == sp), mp := fun q => if (q.1 == sp) = true then none else x.mp q, n := n' } := by rw [List.getElem?_set_self hkl]
  have hd6 : ((hs.set k { x with V := V', ord := x.ord.filter fun q => !(q.1 == sp), mp := fun q => if (q.1 == sp) = true then none else x.mp q, n := n' }).map HX.hd)[k]? = some (x.m, V') := by rw [List.getElem?_map, hk6]; rfl
  obtain ⟨_, a6, off6, hat6, l60, l61⟩ := hd_at S6 rfl hd6 c3
  rw [hat] at hat6
  cases hat6
  have hl6 := R3.len (P := Try.prog) ty50 h6
  have hfl : (x.ord.filter fun q => !(q.1 == sp)).length ≤ x.ord.length := List.length_filter_le _ _
  simp (disch := omega) only [i, sh, sh2, shi, dec, l61, b_len, hl6]
  exact ⟨trivial, V', n', S6.init⟩
end
end Go.Proofs.Ytgncgokjbakdmaa
