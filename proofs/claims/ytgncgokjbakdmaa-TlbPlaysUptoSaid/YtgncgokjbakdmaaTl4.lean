/-
  tlb: what it stands for; Look, Kept, Open, Flush, Fill.
-/
import Derived.Test.YtgncgokjbakdmaaTl3
set_option linter.all false
namespace Go.Proofs.Ytgncgokjbakdmaa
open Go.ChangeShapes Go.WideShapes Go.ChangeAt Go.RowKit Go.Lm
set_option linter.unusedSimpArgs false
abbrev KEnt := AKey × Int
def lkp : List KEnt → AKey → Option Int
  | [], _ => none
  | p :: l, q => if p.1 = q then some p.2 else lkp l q
theorem lkp_none : ∀ {l : List KEnt} {q : AKey}, q ∉ l.map (·.1) → lkp l q = none
  | [], _, _ => rfl
  | p :: l, q, h => by
    simp only [List.map_cons, List.mem_cons, not_or] at h
    simp only [lkp, if_neg (Ne.symm h.1)]
    exact lkp_none h.2
theorem lkp_iff : ∀ {l : List KEnt} {q : AKey}, (lkp l q).isSome = true ↔ q ∈ l.map (·.1)
  | [], _ => by simp [lkp]
  | p :: l, q => by
    simp only [lkp, List.map_cons, List.mem_cons]
    by_cases h : p.1 = q
    · simp [h]
    · rw [if_neg h, lkp_iff (l := l)]
      simp [Ne.symm h]
theorem lkp_app : ∀ (l : List KEnt) (q q' : AKey) (e : Int), lkp (l ++ [(q, e)]) q' = (lkp l q').or (if q = q' then some e else none)
  | [], q, q', e => by simp [lkp]
  | p :: l, q, q', e => by
    simp only [List.cons_append, lkp, lkp_app l]
    by_cases h : p.1 = q' <;> simp [h]
theorem lkp_filter (p : AKey → Bool) : ∀ (l : List KEnt) (q : AKey), lkp (l.filter fun x => p x.1) q = if p q = true then lkp l q else none
  | [], q => by simp [lkp]
  | x :: l, q => by
    simp only [List.filter_cons]
    have ih := lkp_filter p l q
    by_cases hx : p x.1 = true
    · rw [if_pos hx]
      simp only [lkp, ih]
      by_cases h : x.1 = q
      · simp [h, h ▸ hx]
      · simp [h]
    · rw [if_neg hx, ih]
      by_cases h : x.1 = q
      · simp [h ▸ hx]
      · simp [lkp, h]
theorem lkp_tail {x : KEnt} {l : List KEnt} (nd : ((x :: l).map (·.1)).Nodup) (q : AKey) : lkp l q = if q = x.1 then none else lkp (x :: l) q := by
  simp only [List.map_cons, List.nodup_cons] at nd
  by_cases h : q = x.1
  · subst h; rw [if_pos rfl]; exact lkp_none nd.1
  · rw [if_neg h]; simp [lkp, Ne.symm h]
def setK (l : List KEnt) (q : AKey) (e : Int) : List KEnt := l.map fun p => if p.1 = q then (q, e) else p
theorem setK_keys (l : List KEnt) (q : AKey) (e : Int) : (setK l q e).map (·.1) = l.map (·.1) := by
  simp only [setK, List.map_map]
  refine List.map_congr_left fun p _ => ?_
  by_cases h : p.1 = q <;> simp [h]
theorem lkp_setK : ∀ (l : List KEnt) (q : AKey) (e : Int) (q' : AKey), q ∈ l.map (·.1) → lkp (setK l q e) q' = if q' = q then some e else lkp l q'
  | [], q, e, q', h => by simp at h
  | p :: l, q, e, q', h => by
    have key : ∀ (l : List KEnt), q ∉ l.map (·.1) → setK l q e = l := fun l hl => by
      rw [setK]
      conv => rhs; rw [← List.map_id l]
      refine List.map_congr_left fun x hx => ?_
      rw [if_neg fun hh => hl (List.mem_map.2 ⟨x, hx, hh⟩)]; rfl
    simp only [setK, List.map_cons] at *
    by_cases hp : p.1 = q
    · simp only [if_pos hp, lkp]
      by_cases hq : q = q'
      · simp [hq]
      · rw [if_neg hq, if_neg (Ne.symm hq), if_neg (by rw [hp]; exact hq)]
        by_cases hm : q ∈ l.map (·.1)
        · have := lkp_setK l q e q' hm
          rw [if_neg (Ne.symm hq)] at this
          exact this
        · exact congrArg (lkp · q') (key l hm)
    · rw [if_neg hp]
      have hm : q ∈ l.map (·.1) := by
        rcases List.mem_cons.1 h with h | h
        · exact absurd h.symm hp
        · exact h
      have ih := lkp_setK l q e q' hm
      simp only [lkp]
      by_cases hpq : p.1 = q'
      · rw [if_pos hpq, if_neg (by rw [← hpq]; exact hp), if_pos hpq]
      · rw [if_neg hpq, if_neg hpq]; exact ih
def fillK (size : Int) (l : List KEnt) (q : AKey) (e : Int) : List KEnt :=
  if q ∈ l.map (·.1) then setK l q e else (if size ≤ l.length then l.drop 1 else l) ++ [(q, e)]
def goneK (l : List KEnt) (sp : Int) : List KEnt := l.filter fun p => !(p.1.1 == sp)
structure TSt where
  size : Int
  harts : List (List KEnt)
  begun : Int
  opn : Int → Option (Int × List Bool)
  nopn : Nat
def shV (s : Int × List Bool) : LV := .agg (i s.1 :: s.2.map .bool)
def u32V (e : Int) : LV := .int .u32 e
def HXok (x : HX) (kept : List KEnt) : Prop := x.ord = kept.map (·.1) ∧ x.mp = fun q => (lkp kept q).map u32V
structure TWf (st : TSt) : Prop where
  s1 : 1 ≤ st.size
  s2 : st.size ≤ 64
  h8 : st.harts.length ≤ 8
  nd : ∀ l ∈ st.harts, (l.map (·.1)).Nodup ∧ l.length ≤ st.size
  b0 : 0 ≤ st.begun
  b1 : st.begun < 2147483648
  no : (st.nopn : Int) ≤ st.begun
  op : ∀ id s, st.opn id = some s → 1 ≤ id ∧ id ≤ st.begun ∧ s.2.length = 8 ∧ (∀ j : Nat, s.2[j]? = some true → j < st.harts.length) ∧ ∃ j : Nat, s.2[j]? = some true
def TD (t : Nat) (st : TSt) (Ts : List Thing) : Prop :=
  ∃ HS om hs, Ts = TlTs t st.size HS st.begun om (fun id => (st.opn id).map shV) st.nopn hs ∧ All2 HXok hs st.harts ∧ TWf st
abbrev TBox (t : Nat) (S : Nat → Prop) (st : TSt) : Thing := Thing.box (TD t) S st
section
variable {F : Nat → Prop} {g h h' : LHeap} {t om no k : Nat} {size begun : Int} {HS : LV} {op : Int → Option LV} {hs : List HX} {x : HX} {Zs : List Thing} {st : TSt} {S : Nat → Prop}
theorem tz_m (hk : hs[k]? = some x) : (TlTs t size HS begun om op no hs ++ Zs)[3 + k]? = some x.mT := by
  have h := tl_m (t := t) (size := size) (HS := HS) (begun := begun) (om := om) (op := op) (no := no) hk
  rw [List.getElem?_append_left (List.getElem?_eq_some_iff.1 h).1]; exact h
theorem tz_v (hk : hs[k]? = some x) : (TlTs t size HS begun om op no hs ++ Zs)[3 + hs.length + k]? = some x.vT := by
  have h := tl_v (t := t) (size := size) (HS := HS) (begun := begun) (om := om) (op := op) (no := no) hk
  rw [List.getElem?_append_left (List.getElem?_eq_some_iff.1 h).1]; exact h
theorem tl_len : (TlTs t size HS begun om op no hs).length = 3 + 2 * hs.length := by simp [TlTs]; omega
theorem tz_set_m (hk : hs[k]? = some x) (mp : AKey → Option LV) (n : Nat) : (TlTs t size HS begun om op no hs ++ Zs).set (3 + k) (Thing.map x.m keyK.k mp n) = TlTs t size HS begun om op no (hs.set k { x with mp := mp, n := n }) ++ Zs := by
  have hl := (List.getElem?_eq_some_iff.1 hk).1
  rw [List.set_append_left _ _ (by rw [tl_len]; omega), tl_set_m hk]
theorem tz_set_v (hk : hs[k]? = some x) (V : LV) (ord : List AKey) : ((TlTs t size HS begun om op no hs ++ Zs).set (3 + hs.length + k) (Thing.vec keyE V ord)).set 1 (Thing.vec hdE HS ((hs.map HX.hd).set k (x.m, V))) = TlTs t size HS begun om op no (hs.set k { x with V := V, ord := ord }) ++ Zs := by
  have hl := (List.getElem?_eq_some_iff.1 hk).1
  rw [List.set_append_left _ _ (by rw [tl_len]; omega), List.set_append_left _ _ (by rw [List.length_set, tl_len]; omega), tl_set_v hk]
theorem Sep.left (Sp : Sep F g h (TlTs t size HS begun om op no hs ++ Zs)) : Sep F g h (TlTs t size HS begun om op no hs) := Sp.sub (List.sublist_append_left _ _)
theorem hs_get (ok : All2 HXok hs st.harts) {l : List KEnt} (hk : st.harts[k]? = some l) : ∃ x, hs[k]? = some x ∧ HXok x l := ok.get hk
theorem kept_of (hk : k < st.harts.length) : ∃ l, st.harts[k]? = some l := ⟨_, List.getElem?_eq_getElem hk⟩
theorem Flush_ok (B : (TBox t S st).ok g) (lt : ∀ a, S a → a < g.next) (a sp : Int) : Ok Try.prog 30 [.ptr t 0, i a, i sp] g fun v h =>
    (¬ (0 ≤ a ∧ a < st.harts.length) ∧ v = i 0 ∧ After (TD t) S g h st) ∨
    (∃ (k : Nat) (l : List KEnt), a = k ∧ st.harts[k]? = some l ∧ v = i ((l.length : Int) - (goneK l sp).length) ∧ After (TD t) S g h { st with harts := st.harts.set k (goneK l sp) }) := by
  refine ok30 fun wf _ => ?_
  obtain ⟨Ts, ⟨HS, om, hs, rfl, ok, tw⟩, Sp⟩ := box_open B lt
  simp (disch := omega) only [F30, i]
  refine (is_ok Sp a).mono ?_
  rintro _ _ ⟨rfl, rfl⟩
  have hln : hs.length = st.harts.length := ok.len
  by_cases hr : 0 ≤ a ∧ a < st.harts.length
  · obtain ⟨k, rfl⟩ := Int.eq_ofNat_of_zero_le hr.1
    obtain ⟨l, hl⟩ := kept_of (st := st) (k := k) (by omega)
    obtain ⟨x, hx, ho, hm⟩ := hs_get ok hl
    have x0 := Sp.cell 0 rfl
    have ix := (Sp.row (V := HS) 1 rfl).ix (k := .i64) (i := k) (by rw [List.length_map]; omega)
    have e2 : hdE.e = 2 := rfl
    rw [e2] at ix
    have hd : decide (0 ≤ (k : Int) ∧ (k : Int) < hs.length) = true := by simp; omega
    have tl := tw.nd l (List.mem_of_getElem? hl)
    have ts := tw.s2
    have hol : x.ord.length = l.length := by rw [ho, List.length_map]
    have hgl : (x.ord.filter fun q => !(q.1 == sp)) = (goneK l sp).map (·.1) := by
      rw [ho, goneK, List.filter_map]; rfl
    rw [hd]
    simp (disch := omega) only [sh, sh2, x0, i, ix]
    refine (forget_ok Sp hx (by omega) sp).mono ?_
    rintro _ h2 ⟨rfl, V', n', S2⟩
    refine .inr ⟨k, l, rfl, hl, by rw [hgl, hol, List.length_map], S2.after ⟨HS, om, _, rfl, ok.set k ⟨hgl, ?_⟩, ?_⟩⟩
    · funext q
      rw [hm]
      have := lkp_filter (fun q => !(q.1 == sp)) l q
      unfold goneK
      rw [this]
      by_cases hq : (q.1 == sp) = true <;> simp [hq]
    · refine ⟨tw.s1, tw.s2, by simpa using tw.h8, fun l' hl' => ?_, tw.b0, tw.b1, tw.no, fun id s hs' => by simpa using tw.op id s hs'⟩
      rcases List.mem_or_eq_of_mem_set hl' with h1 | rfl
      · exact tw.nd l' h1
      · refine ⟨tl.1.sublist (List.filter_sublist.map _), ?_⟩
        have : (goneK l sp).length ≤ l.length := List.length_filter_le _ _
        show ((goneK l sp).length : Int) ≤ st.size
        omega
  · have hd : decide (0 ≤ a ∧ a < hs.length) = false := by simp; omega
    rw [hd]
    simp (disch := omega) only [sh, sh2]
    exact .inl ⟨hr, trivial, Sp.after ⟨HS, om, hs, rfl, ok, tw⟩⟩
end
end Go.Proofs.Ytgncgokjbakdmaa
