/-
  disk: what it stands for.
-/
import Derived.Test.YtoajcekgoalhjaaBf1
import Derived.Test.YtoajcekgoalhjaaLm7x
set_option linter.all false
namespace Go.Proofs.Ytoajcekgoalhjaa
open Go.ChangeShapes Go.WideShapes Go.ChangeAt Go.RowKit Go.Lm
set_option linter.unusedSimpArgs false
set_option maxRecDepth 10000
/-! ### plain -/
def lastOf {A : Type} : List (Int × A) → Int → Option A
  | [], _ => none
  | p :: l, n => (lastOf l n).or (if p.1 = n then some p.2 else none)
theorem lastOf_app {A : Type} (k : Int) (a : A) (n : Int) : ∀ l : List (Int × A), lastOf (l ++ [(k, a)]) n = if k = n then some a else lastOf l n
  | [] => by simp [lastOf]
  | p :: l => by
    simp only [List.cons_append, lastOf, lastOf_app k a n l]
    by_cases h : k = n <;> simp [h]
def sect (pl : List Int) (n : Int) : List Int := (pl.drop (n.toNat * 512)).take 512
def putS (pl : List Int) (w : Int × List Int) : List Int := pl.take (w.1.toNat * 512) ++ w.2 ++ pl.drop (w.1.toNat * 512 + 512)
theorem putS_len {pl : List Int} {w : Int × List Int} (hw : w.2.length = 512) (hn : w.1.toNat * 512 + 512 ≤ pl.length) : (putS pl w).length = pl.length := by
  simp [putS, hw]; omega
theorem sect_len {pl : List Int} {n : Int} (hn : n.toNat * 512 + 512 ≤ pl.length) : (sect pl n).length = 512 := by simp [sect]; omega
theorem sect_put {pl : List Int} {w : Int × List Int} (hw : w.2.length = 512) (hn : w.1.toNat * 512 + 512 ≤ pl.length) {n : Int} (h0 : 0 ≤ w.1) (h1 : 0 ≤ n) (hm : n.toNat * 512 + 512 ≤ pl.length) : sect (putS pl w) n = if w.1 = n then w.2 else sect pl n := by
  have hl : (pl.take (w.1.toNat * 512)).length = w.1.toNat * 512 := by rw [List.length_take]; omega
  by_cases h : w.1 = n
  · rw [if_pos h, sect, putS, ← h, List.append_assoc, List.drop_left' hl, List.take_left' hw]
  · rw [if_neg h]
    refine List.ext_getElem? fun j => ?_
    simp only [sect, putS, List.getElem?_take, List.getElem?_drop]
    by_cases hj : j < 512
    · rw [if_pos hj, if_pos hj]
      have hne : w.1.toNat ≠ n.toNat := by omega
      rcases Nat.lt_or_gt_of_ne hne with hlt | hgt
      · rw [List.getElem?_append_right (by rw [List.length_append, hl, hw]; omega), List.length_append, hl, hw, List.getElem?_drop]
        congr 1
        omega
      · rw [List.append_assoc, List.getElem?_append_left (by rw [hl]; omega), List.getElem?_take, if_pos (by omega)]
    · rw [if_neg hj, if_neg hj]
structure DSt where
  cnt : Nat
  pl : List Int
  pd : List (Int × List Int)
structure DWf (st : DSt) : Prop where
  c1 : 1 ≤ st.cnt
  c2 : st.cnt ≤ 4096
  pl : st.pl.length = 512 * st.cnt
  pd : ∀ w ∈ st.pd, 0 ≤ w.1 ∧ w.1 < st.cnt ∧ w.2.length = 512
def DSt.rd (st : DSt) (n : Int) : List Int := (lastOf st.pd n).getD (sect st.pl n)
theorem rd_len {st : DSt} (w : DWf st) {n : Int} (h0 : 0 ≤ n) (h1 : n < st.cnt) : (st.rd n).length = 512 := by
  have hs : (sect st.pl n).length = 512 := sect_len (by rw [w.pl]; omega)
  have : ∀ l : List (Int × List Int), (∀ w ∈ l, w.2.length = 512) → ((lastOf l n).getD (sect st.pl n)).length = 512 := by
    intro l
    induction l with
    | nil => intro _; simpa [lastOf] using hs
    | cons p l ih =>
      intro h
      have := ih fun w hw => h w (List.mem_cons_of_mem _ hw)
      simp only [lastOf]
      cases hl : lastOf l n with
      | some b => rw [hl] at this; simpa using this
      | none =>
        by_cases hp : p.1 = n
        · simpa [hp] using h p (List.mem_cons_self ..)
        · simpa [hp] using hs
  exact this _ fun w' hw => (w.pd w' hw).2.2
def DSt.wr (st : DSt) (n : Int) (b : List Int) : DSt := { st with pd := st.pd ++ [(n, b)] }
def DSt.fl (st : DSt) : DSt := { st with pl := st.pd.foldl putS st.pl, pd := [] }
theorem rd_wr (st : DSt) (n : Int) (b : List Int) (k : Int) : (st.wr n b).rd k = if n = k then b else st.rd k := by
  simp only [DSt.rd, DSt.wr, lastOf_app]
  by_cases h : n = k <;> simp [h]
theorem fold_len : ∀ (l : List (Int × List Int)) (pl : List Int), (∀ w ∈ l, w.2.length = 512 ∧ w.1.toNat * 512 + 512 ≤ pl.length) → (l.foldl putS pl).length = pl.length
  | [], _, _ => rfl
  | w :: l, pl, h => by
    have hw := h w (List.mem_cons_self ..)
    have := putS_len hw.1 hw.2
    rw [List.foldl_cons, fold_len l _ fun v hv => by rw [this]; exact h v (List.mem_cons_of_mem _ hv), this]
theorem sect_fold : ∀ (l : List (Int × List Int)) (pl : List Int) (n : Int), 0 ≤ n → n.toNat * 512 + 512 ≤ pl.length → (∀ w ∈ l, w.2.length = 512 ∧ 0 ≤ w.1 ∧ w.1.toNat * 512 + 512 ≤ pl.length) → sect (l.foldl putS pl) n = (lastOf l n).getD (sect pl n)
  | [], _, _, _, _, _ => rfl
  | w :: l, pl, n, h0, hn, h => by
    have hw := h w (List.mem_cons_self ..)
    have hl := putS_len hw.1 hw.2.2
    rw [List.foldl_cons, sect_fold l _ n h0 (by rw [hl]; exact hn) fun v hv => by rw [hl]; exact h v (List.mem_cons_of_mem _ hv), sect_put hw.1 hw.2.2 hw.2.1 h0 hn, lastOf]
    cases lastOf l n with
    | some b => rfl
    | none => by_cases h : w.1 = n <;> simp [h]
theorem DWf.wr {st : DSt} (w : DWf st) {n : Int} {b : List Int} (h : 0 ≤ n ∧ n < st.cnt ∧ b.length = 512) : DWf (st.wr n b) :=
  ⟨w.c1, w.c2, w.pl, fun v hv => by
    rcases List.mem_append.1 hv with hv | hv
    · exact w.pd v hv
    · rw [List.mem_singleton.1 hv]; exact h⟩
theorem DWf.fl {st : DSt} (w : DWf st) : DWf st.fl :=
  ⟨w.c1, w.c2, by
    show (st.pd.foldl putS st.pl).length = _
    rw [fold_len _ _ fun v hv => ⟨(w.pd v hv).2.2, by have := w.pd v hv; have := w.pl; omega⟩]
    exact w.pl, fun v hv => by cases hv⟩
theorem rd_fl {st : DSt} (w : DWf st) {n : Int} (h0 : 0 ≤ n) (h1 : n < st.cnt) : st.fl.rd n = st.rd n := by
  show sect (st.pd.foldl putS st.pl) n = _
  rw [sect_fold _ _ _ h0 (by rw [w.pl]; omega) fun v hv => ⟨(w.pd v hv).2.2, (w.pd v hv).1, by have := w.pd v hv; have := w.pl; omega⟩]
  rfl
/-! ### in the heap -/
structure WX where
  n : Int
  V : LV
  b : List Int
def wrE : Enc (Int × LV) := ⟨fun s => [i s.1, if s.2.cell then s.2 else .nils], 2, fun _ => rfl, fun s v h => by
  simp only [List.mem_cons, List.not_mem_nil, or_false] at h
  rcases h with rfl | rfl
  · rfl
  · split
    · assumption
    · rfl, by decide⟩
def WX.hd (x : WX) : Int × LV := (x.n, x.V)
def WX.pr (x : WX) : Int × List Int := (x.n, x.b)
def WX.vT (x : WX) : Thing := Thing.vec byteE x.V x.b
theorem last_pair (n : Int) : ∀ ws : List WX, (∃ w ∈ ws, w.n = n ∧ lastOf (ws.map WX.hd) n = some w.V ∧ lastOf (ws.map WX.pr) n = some w.b) ∨ (lastOf (ws.map WX.hd) n = none ∧ lastOf (ws.map WX.pr) n = none)
  | [] => .inr ⟨rfl, rfl⟩
  | w :: ws => by
    rcases last_pair n ws with ⟨x, h1, h2, h3, h4⟩ | ⟨h1, h2⟩
    · exact .inl ⟨x, List.mem_cons_of_mem _ h1, h2, by simp [lastOf, h3], by simp [lastOf, h4]⟩
    · by_cases h : w.n = n
      · exact .inl ⟨w, List.mem_cons_self .., h, by simp [lastOf, h1, WX.hd, h], by simp [lastOf, h2, WX.pr, h]⟩
      · exact .inr ⟨by simp [lastOf, h1, WX.hd, h], by simp [lastOf, h2, WX.pr, h]⟩
theorem int_eq (d : Nat) (a b : Int) : eqTy Try.prog (d + 1) 3 (i a) (i b) = some (a == b) := by simp only [eqTy, u3, if_true]
def intK : Key Try.prog 3 Int := ⟨fun n => i n, fun a b => ⟨_, int_eq 59 a b, by simp⟩, fun a => by kernel_rfl, fun a => by simp [sameL, same1]⟩
theorem ty85 : Try.prog.underlying 85 = some (.map 3 33) := by kernel_rfl
theorem ty86 : Try.prog.underlying 86 = some (.slice 113) := by kernel_rfl
theorem ty23 : Try.prog.underlying 23 = some (.pointer 88) := by kernel_rfl
theorem zr33 : zeroL Try.prog 33 = some .nils := by kernel_rfl
theorem sz5 : sizeL Try.prog 5 = some 1 := by kernel_rfl
structure DC where
  PV : LV
  QV : LV
  om : Nat
  lf : Int
  r : Int
  w : Int
  f : Int
  nm : Nat
def DkTs (d : Nat) (c : DC) (pl : List Int) (ws : List WX) : List Thing :=
  [Thing.cells d [c.PV, c.QV, .map c.om, .bool false, i c.lf, i c.r, i c.w, i c.f], Thing.vec byteE c.PV pl, Thing.vec wrE c.QV (ws.map WX.hd), Thing.map c.om intK.k (lastOf (ws.map WX.hd)) c.nm] ++ ws.map WX.vT
def DkD (d : Nat) (st : DSt) (Ts : List Thing) : Prop := ∃ c ws, Ts = DkTs d c st.pl ws ∧ ws.map WX.pr = st.pd ∧ DWf st
abbrev DBox (d : Nat) (S : Nat → Prop) (st : DSt) : Thing := Thing.box (DkD d) S st
section
variable {F : Nat → Prop} {g h h' : LHeap} {d k : Nat} {c : DC} {pl : List Int} {ws : List WX} {Zs : List Thing} {st : DSt} {S : Nat → Prop}
theorem wr_at {n : Nat} (hc : pl.length = 512 * n) (hn : 1 ≤ n ∧ n ≤ 4096) (Sp : Sep F g h (DkTs d c pl ws ++ Zs)) : Ok Try.prog 47 [.ptr d 0] h fun v h' => v = i n ∧ h' = h := by
  refine ok47 fun _ _ => ?_
  have x0 := Sp.cell 0 rfl
  have hl := (Sp.row (V := c.PV) 1 rfl).len (P := Try.prog) ty33
  have e : IntKind.i64.wrap ((pl.length : Int).tdiv 512) = n := by
    rw [hc]
    have : ((512 * n : Nat) : Int).tdiv 512 = n := by
      rw [Int.natCast_mul]; exact Int.mul_tdiv_cancel_left _ (by decide)
    rw [this]
    simp (disch := omega) only [dec]
  simp (disch := omega) only [F47, sh, sh2, nil_p ty23 true, x0, i, b_len, hl, binL_quo_int]
  exact ⟨by rw [e], trivial⟩
end
end Go.Proofs.Ytoajcekgoalhjaa
