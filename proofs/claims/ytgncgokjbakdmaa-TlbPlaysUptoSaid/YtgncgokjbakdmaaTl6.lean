/-
  tlb: Look, Kept, Open, Harts, Over.
-/
import Derived.Test.YtgncgokjbakdmaaTl5
set_option linter.all false
namespace Go.Proofs.Ytgncgokjbakdmaa
open Go.ChangeShapes Go.WideShapes Go.ChangeAt Go.RowKit Go.Lm
set_option linter.unusedSimpArgs false
def TSt.hart (st : TSt) (a : Int) : List KEnt := if 0 ≤ a then (st.harts[a.toNat]?).getD [] else []
theorem hart_in {st : TSt} {k : Nat} {l : List KEnt} (h : st.harts[k]? = some l) : st.hart k = l := by
  unfold TSt.hart
  rw [if_pos (by omega), Int.toNat_natCast, h]; rfl
theorem hart_out {st : TSt} {a : Int} (h : ¬ (0 ≤ a ∧ a < st.harts.length)) : st.hart a = [] := by
  unfold TSt.hart
  split
  · rw [List.getElem?_eq_none (by omega)]; rfl
  · rfl
def zero9 : List LV := [i 0, .bool false, .bool false, .bool false, .bool false, .bool false, .bool false, .bool false, .bool false]
theorem list8 {A : Type} {l : List A} (h : l.length = 8) : ∃ a b c d e f g k, l = [a, b, c, d, e, f, g, k] := by
  match l, h with
  | [a, b, c, d, e, f, g, k], _ => exact ⟨a, b, c, d, e, f, g, k, rfl⟩
theorem st9 (h : LHeap) {s : Int × List Bool} (hs : s.2.length = 8) : ∃ N, newL (.agg [.int .i64 0, .bool false, .bool false, .bool false, .bool false, .bool false, .bool false, .bool false, .bool false]) h = some (.ptr h.next 0, N) ∧ storeV 9 (.ptr h.next 0) (shV s) N = some (h.alloc (.cells (i s.1 :: s.2.map .bool) .ex)) := by
  obtain ⟨sp, l⟩ := s
  obtain ⟨a, b, c, d, e, f, g, k, rfl⟩ := list8 hs
  refine ⟨_, new_agg _ _ (by simp [LV.cell]), ?_⟩
  show storeV 9 _ (.agg [i sp, .bool a, .bool b, .bool c, .bool d, .bool e, .bool f, .bool g, .bool k]) _ = _
  simp only [sh2, shc, i]
  rfl
theorem cells9 {s : Int × List Bool} (hs : s.2.length = 8) : cellO (some 9) 0 (some (.cells (i s.1 :: s.2.map .bool) .ex)) = some (shV s) := by
  rw [cells_o _ _ _ _ (by simp [hs]), List.drop_zero, List.take_of_length_le (by simp [hs])]
  rfl
section
variable {F : Nat → Prop} {g h h' : LHeap} {t : Nat} {st : TSt} {S : Nat → Prop}
theorem Look_ok (B : (TBox t S st).ok g) (lt : ∀ a, S a → a < g.next) (a : Int) (q : AKey) : Ok Try.prog 31 [.ptr t 0, i a, .agg (keyE.f q)] g fun v h => v = .tuple [u32V ((lkp (st.hart a) q).getD 0), .bool (lkp (st.hart a) q).isSome] ∧ Fr noF g h := by
  refine ok31 fun wf _ => ?_
  obtain ⟨Ts, ⟨HS, om, hs, rfl, ok, tw⟩, Sp⟩ := box_open B lt
  have S1 := Sp.new (keyE.f q)
  simp (disch := omega) only [F31, i, sh, new_key]
  refine (is_ok S1.init a).mono ?_
  rintro _ _ ⟨rfl, rfl⟩
  have hln : hs.length = st.harts.length := ok.len
  by_cases hr : 0 ≤ a ∧ a < st.harts.length
  rotate_left
  · have hd : decide (0 ≤ a ∧ a < hs.length) = false := by simp; omega
    rw [hd, hart_out hr]
    simp (disch := omega) only [sh, sh2]
    exact ⟨rfl, Fr.alloc _ _⟩
  obtain ⟨k, rfl⟩ := Int.eq_ofNat_of_zero_le hr.1
  obtain ⟨l, hl⟩ := kept_of (st := st) (k := k) (by omega)
  obtain ⟨x, hx, ho, hm⟩ := hs_get ok hl
  rw [hart_in hl]
  have x0 := S1.cell 0 rfl
  have xq := S1.cell (TlTs t st.size HS st.begun om (fun id => (st.opn id).map shV) st.nopn hs).length (a := g.next) (vs := keyE.f q) (by simp)
  have ix := (S1.row (V := HS) 1 rfl).ix (k := .i64) (i := k) (by rw [List.length_map]; omega)
  have e2 : hdE.e = 2 := rfl
  rw [e2] at ix
  have hd : decide (0 ≤ (k : Int) ∧ (k : Int) < hs.length) = true := by simp; omega
  have cV := (S1.row (3 + hs.length + k) (V := x.V) (E := keyE) (l := x.ord) (tz_v hx)).cell
  have hdd : (hs.map HX.hd)[k]? = some (x.m, x.V) := by rw [List.getElem?_map, hx]; rfl
  obtain ⟨_, pa, po, hat, l0, l1⟩ := hd_at S1 rfl hdd cV
  have hlk := (S1.at (3 + k) (tz_m hx)).lookup (P := Try.prog) keyK ty94 zr42 q true
  rw [keyK_f, show x.mp q = (lkp l q).map u32V by rw [hm]] at hlk
  rw [hd]
  cases hev : lkp l q with
  | none =>
    rw [hev] at hlk
    have hlk : lookupL Try.prog 94 (.map x.m) (.agg (keyE.f q)) true (g.alloc (.cells (keyE.f q) .ex)) = some (.tuple [.int .u32 0, .bool false]) := hlk
    simp (disch := omega) only [sh, sh2, x0, i, ix, hat, l0, xq, key_o, hlk]
    exact ⟨rfl, Fr.alloc _ _⟩
  | some e =>
    rw [hev] at hlk
    have hlk : lookupL Try.prog 94 (.map x.m) (.agg (keyE.f q)) true (g.alloc (.cells (keyE.f q) .ex)) = some (.tuple [u32V e, .bool true]) := hlk
    simp (disch := omega) only [sh, sh2, x0, i, ix, hat, l0, xq, key_o, hlk]
    exact ⟨rfl, Fr.alloc _ _⟩
theorem Kept_ok (B : (TBox t S st).ok g) (lt : ∀ a, S a → a < g.next) (a : Int) : Ok Try.prog 25 [.ptr t 0, i a] g fun v h => Vec keyE g.next h v ((st.hart a).map (·.1)) ∧ Mine h v ∧ Fr noF g h := by
  refine ok25 fun wf _ => ?_
  obtain ⟨Ts, ⟨HS, om, hs, rfl, ok, tw⟩, Sp⟩ := box_open B lt
  simp (disch := omega) only [F25, i]
  refine (is_ok Sp a).mono ?_
  rintro _ _ ⟨rfl, rfl⟩
  have hln : hs.length = st.harts.length := ok.len
  by_cases hr : 0 ≤ a ∧ a < st.harts.length
  rotate_left
  · have hd : decide (0 ≤ a ∧ a < hs.length) = false := by simp; omega
    rw [hd, hart_out hr]
    simp (disch := omega) only [sh, sh2]
    exact ⟨Vec.nils _ _, trivial, Fr.refl _ _⟩
  obtain ⟨k, rfl⟩ := Int.eq_ofNat_of_zero_le hr.1
  obtain ⟨l, hl⟩ := kept_of (st := st) (k := k) (by omega)
  obtain ⟨x, hx, ho, hm⟩ := hs_get ok hl
  rw [hart_in hl]
  have x0 := Sp.cell 0 rfl
  have ix := (Sp.row (V := HS) 1 rfl).ix (k := .i64) (i := k) (by rw [List.length_map]; omega)
  have e2 : hdE.e = 2 := rfl
  rw [e2] at ix
  have hd : decide (0 ≤ (k : Int) ∧ (k : Int) < hs.length) = true := by simp; omega
  have RV := Sp.row (3 + hs.length + k) (V := x.V) (E := keyE) (l := x.ord) (tl_v hx)
  have cV := RV.cell
  have hdd : (hs.map HX.hd)[k]? = some (x.m, x.V) := by rw [List.getElem?_map, hx]; rfl
  obtain ⟨_, pa, po, hat, l0, l1⟩ := hd_at Sp rfl hdd cV
  have tl := (tw.nd l (List.mem_of_getElem? hl)).2
  have ts := tw.s2
  rw [hd]
  simp (disch := omega) only [sh, sh2, x0, i, ix, hat, l1]
  rw [ho] at RV
  exact (clone48_ok RV (by rw [List.length_map]; omega)).mono fun _ _ h => h
set_option maxRecDepth 10000 in
theorem Open_ok (B : (TBox t S st).ok g) (lt : ∀ a, S a → a < g.next) : Ok Try.prog 35 [.ptr t 0] g fun v h => v = i st.nopn ∧ h = g := by
  refine ok35 fun wf _ => ?_
  obtain ⟨Ts, ⟨HS, om, hs, rfl, ok, tw⟩, Sp⟩ := box_open B lt
  have x0 := Sp.cell 0 rfl
  have hl := MapIs.len (P := Try.prog) (Sp.at (T := Thing.map om intK.k (fun id => (st.opn id).map shV) st.nopn) 2 rfl) ty91
  simp (disch := omega) only [F35, i, sh, sh2, nil_p ty36 true, x0, b_len, hl]
  exact ⟨trivial, trivial⟩
set_option maxRecDepth 10000 in
theorem Harts_ok (B : (TBox t S st).ok g) (lt : ∀ a, S a → a < g.next) : Ok Try.prog 36 [.ptr t 0] g fun v h => v = i st.harts.length ∧ h = g := by
  refine ok36 fun wf _ => ?_
  obtain ⟨Ts, ⟨HS, om, hs, rfl, ok, tw⟩, Sp⟩ := box_open B lt
  have x0 := Sp.cell 0 rfl
  have hl := (Sp.row (V := HS) 1 rfl).len (P := Try.prog) ty90
  have hln : hs.length = st.harts.length := ok.len
  rw [List.length_map, hln] at hl
  simp (disch := omega) only [F36, i, sh, sh2, nil_p ty36 true, x0, b_len, hl]
  exact ⟨trivial, trivial⟩
def overB (st : TSt) (id : Int) : Bool := decide (1 ≤ id ∧ id ≤ st.begun) && (st.opn id).isNone
set_option maxRecDepth 10000 in
theorem Over_ok (B : (TBox t S st).ok g) (lt : ∀ a, S a → a < g.next) (id : Int) : Ok Try.prog 23 [.ptr t 0, i id] g fun v h => v = .bool (overB st id) ∧ Fr noF g h := by
  refine ok23 fun wf _ => ?_
  obtain ⟨Ts, ⟨HS, om, hs, rfl, ok, tw⟩, Sp⟩ := box_open B lt
  have x0 := Sp.cell 0 rfl
  have hlk := MapIs.lookup (P := Try.prog) intK (Sp.at (T := Thing.map om intK.k (fun id => (st.opn id).map shV) st.nopn) 2 rfl) ty91 zr101 id true
  by_cases h1 : id < 1
  · simp (disch := omega) only [F23, i, sh, sh2, shi, dec, nil_p ty36 true]
    exact ⟨by unfold overB; rw [decide_eq_false (by omega)]; rfl, Fr.refl _ _⟩
  by_cases h2 : st.begun < id
  · simp (disch := omega) only [F23, i, sh, sh2, shi, dec, nil_p ty36 true, x0]
    exact ⟨by unfold overB; rw [decide_eq_false (by omega)]; rfl, Fr.refl _ _⟩
  cases ho : st.opn id with
  | none =>
    rw [ho] at hlk
    have hlk : lookupL Try.prog 91 (.map om) (.int .i64 id) true g = some (.tuple [shV (0, List.replicate 8 false), .bool false]) := hlk
    obtain ⟨N, n1, n2⟩ := st9 g (s := (0, List.replicate 8 false)) rfl
    simp (disch := omega) only [F23, i, sh, sh2, shi, dec, nil_p ty36 true, x0, hlk, n1, n2]
    exact ⟨by unfold overB; rw [decide_eq_true (by omega), ho]; rfl, Fr.alloc _ _⟩
  | some s =>
    rw [ho] at hlk
    have hlk : lookupL Try.prog 91 (.map om) (.int .i64 id) true g = some (.tuple [shV s, .bool true]) := hlk
    obtain ⟨N, n1, n2⟩ := st9 g (s := s) (tw.op id s ho).2.2.1
    simp (disch := omega) only [F23, i, sh, sh2, shi, dec, nil_p ty36 true, x0, hlk, n1, n2]
    exact ⟨by unfold overB; rw [decide_eq_true (by omega), ho]; rfl, Fr.alloc _ _⟩
end
end Go.Proofs.Ytgncgokjbakdmaa
