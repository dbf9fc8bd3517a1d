/-
  buf: makeRoom.
-/
import Derived.Test.YtoajcekgoalhjaaBf5
set_option linter.all false
namespace Go.Proofs.Ytoajcekgoalhjaa
open Go.ChangeShapes Go.WideShapes Go.ChangeAt Go.RowKit Go.Lm
set_option linter.unusedSimpArgs false
set_option maxRecDepth 10000
theorem sub_flat {A B : Type} {l m : List A} (h : l.Sublist m) (f : A → List B) : (l.flatMap f).Sublist (m.flatMap f) := by
  induction h with
  | slnil => exact .slnil
  | cons a _ ih => rw [List.flatMap_cons]; exact ih.trans (List.sublist_append_right _ _)
  | cons_cons a _ ih => rw [List.flatMap_cons, List.flatMap_cons]; exact List.Sublist.append (List.Sublist.refl _) ih
def clean (xs : List BX) (n : Int) : Bool := match bget xs n with
  | some x => !x.t
  | none => false
theorem firstOf_split {p : Int → Bool} : ∀ (l : List Int) (w : Nat), firstOf p l = w → ∃ n, l[w]? = some n ∧ p n = true ∧ l = l.take w ++ n :: l.drop (w + 1)
  | [], w, h => by simp [firstOf] at h
  | y :: l, w, h => by
    simp only [firstOf] at h
    cases hp : p y with
    | true =>
      simp only [hp, if_true] at h
      obtain rfl : w = 0 := by omega
      exact ⟨y, rfl, hp, by simp⟩
    | false =>
      simp only [hp, Bool.false_eq_true, if_false] at h
      have := firstOf_ge p l
      obtain ⟨w', rfl⟩ : ∃ w', w = w' + 1 := ⟨w - 1, by split at h <;> omega⟩
      obtain ⟨n, e1, e2, e3⟩ := firstOf_split (p := p) l w' (by split at h <;> omega)
      exact ⟨n, by simpa using e1, e2, by simp [← e3]⟩
theorem firstOf_no {p : Int → Bool} : ∀ (l : List Int), firstOf p l = -1 → ∀ n ∈ l, p n = false
  | [], _, n, h => by cases h
  | y :: l, h, n, hn => by
    simp only [firstOf] at h
    cases hp : p y with
    | true => simp [hp] at h
    | false =>
      simp only [hp, Bool.false_eq_true, if_false] at h
      have := firstOf_ge p l
      rcases List.mem_cons.1 hn with rfl | hn
      · exact hp
      · exact firstOf_no (p := p) l (by split at h <;> omega) n hn
section
variable {F : Nat → Prop} {g h h' : LHeap} {d c : Nat} {room : Int} {k : CC} {ds : DSt} {ord : List Int} {xs : List BX} {Zs : List Thing} {st : CSt} {S : Nat → Prop}
theorem clos77 (Sp : Sep F g h (CTs d c room k ds ord xs)) {t : Nat} (ht : h.get t = some (.cells [.ptr c 0] .ex)) {n : Int} {x : BX} (hx : bget xs n = some x) {K : LV → LHeap → Prop} (hK : K (.bool (clean xs n)) h) : callV Try.prog (Ok Try.prog) (.func (.func 77) [] [.ptr t 0]) [i n] h K := by
  rw [cv77]
  refine ok77 fun _ _ => ?_
  have x0 := Sp.cell (a := c) (vs := cells8 d room k) 1 rfl
  obtain ⟨_, h2, h3, _⟩ := blk_at Sp hx
  simp only [i, cells8] at x0
  simp (disch := omega) only [F77, sh, sh2, ht, x0, i, h2, h3]
  have : clean xs n = !x.t := by simp [clean, hx]
  rw [this] at hK
  exact hK
theorem makeRoom_ok (hm : ord.length < 2 ^ 40) (nd : (xs.map BX.n).Nodup) (hmem : ∀ n ∈ ord, ∃ x, bget xs n = some x) (Sp : Sep F g h (CTs d c room k ds ord xs)) : Ok Try.prog 48 [.ptr c 0] h fun v h' =>
    (v = .bool true ∧ (ord.length : Int) < room ∧ Sep F g h' (CTs d c room k ds ord xs)) ∨
    (v = .bool false ∧ room ≤ ord.length ∧ (∀ n ∈ ord, clean xs n = false) ∧ Sep F g h' (CTs d c room k ds ord xs)) ∨
    (v = .bool true ∧ room ≤ ord.length ∧ ∃ a n b x k', ord = a ++ n :: b ∧ bget xs n = some x ∧ x.t = false ∧ Sep F g h' (CTs d c room k' ds (a ++ b) (rest n xs))) := by
  refine ok48 fun wf _ => ?_
  have S1 := Sp.temp (.cells [.ptr c 0] .ex)
  have x1 := S1.cell (a := c) (vs := cells8 d room k) 1 rfl
  have T2 : (CTs d c room k ds ord xs)[2]? = some (Thing.vec intE k.OV ord) := rfl
  have R := S1.row 2 T2
  have hl := R.len (P := Try.prog) ty50
  simp only [i, cells8] at x1
  by_cases hr : (ord.length : Int) < room
  · simp (disch := omega) only [F48, new_p, sh, sh2, i, x1, shi, dec, hl]
    exact .inl ⟨trivial, hr, S1⟩
  have hr' : room ≤ ord.length := by omega
  simp (disch := omega) only [F48, new_p, sh, sh2, i, x1, shi, dec, hl]
  refine (indexFuncM76_ok (p := clean xs) R (by omega) fun n K hn hK => ?_).mono ?_
  · obtain ⟨x, hx⟩ := hmem n hn
    exact clos77 S1 (get_alloc_eq _ _) hx hK
  rintro _ h2 ⟨rfl, rfl⟩
  have hge := firstOf_ge (clean xs) ord
  by_cases h0 : firstOf (clean xs) ord = -1
  · rw [h0]
    simp (disch := omega) only [sh, sh2, i, shi, dec]
    exact .inr (.inl ⟨trivial, hr', firstOf_no ord h0, S1⟩)
  obtain ⟨w, hw⟩ : ∃ w : Nat, firstOf (clean xs) ord = w := ⟨(firstOf (clean xs) ord).toNat, by omega⟩
  obtain ⟨n, hn, hp, hsp⟩ := firstOf_split ord w hw
  have hwl := (List.getElem?_eq_some_iff.1 hn).1
  obtain ⟨x, hx⟩ := hmem n (List.mem_of_getElem? hn)
  have hxt : x.t = false := by simpa [clean, hx] using hp
  have hix := R.ix (k := .i64) (i := w) hwl
  have hld := R.ld1 hn rfl rfl
  have he : intE.e = 1 := rfl
  rw [he] at hix
  obtain ⟨h3, nb', ed, S2, f2⟩ := S1.mdel' (P := Try.prog) (κ := Int) (m := k.bm) (mp := fun n => (bget xs n).map BX.ptr) (n := k.nb) intK 3 rfl ty89 n [3]
  have hK : intK.k n = .int .i64 n := rfl
  rw [hK] at ed
  have x2 := S2.cell (a := c) (vs := cells8 d room k) 1 rfl
  simp only [i, cells8] at x2
  have ht2 : h3.get h.next = some (.cells [.ptr c 0] .ex) := by
    rw [f2.eq h.next (Nat.lt_succ_self _) fun hq => by have := Sp.lt (T := Thing.map k.bm intK.k (fun n => (bget xs n).map BX.ptr) k.nb) 3 rfl (a := h.next) hq; omega]
    exact get_alloc_eq _ _
  rw [hw]
  simp (disch := omega) only [sh, sh2, i, shi, dec, x1, hix, hld, ed, ht2, x2, and_true]
  have e1 : ((w + 1 : Nat) : Int) = (w : Int) + 1 := by omega
  have hdel := delete78_ok (S2.row (V := k.OV) (E := intE) (l := ord) 2 rfl) (S2.grow (V := k.OV) (E := intE) (l := ord) 2 rfl) (S2.mine (V := k.OV) (E := intE) (l := ord) 2 rfl) (a := w) (b := w + 1) (by omega) (by omega) (by omega) (by omega)
  rw [e1] at hdel
  refine call_w hdel ?_
  rintro V h4 ⟨R4, G4, M4, f4, o4⟩ _ _ _
  have S4 := S2.put (T := Thing.vec intE k.OV ord) 2 rfl (Thing.vec intE V (ord.take w ++ ord.drop (w + 1))) f4 ⟨R4, G4, M4⟩ fun a ha => ⟨.inl (o4 a ha), Nat.lt_of_lt_of_le (S2.lt (T := Thing.vec intE k.OV ord) 2 rfl (o4 a ha)) f4.le⟩
  have x4 := S4.cell (a := c) (vs := cells8 d room k) 1 rfl
  have S5 := S4.store (a := c) (vs := cells8 d room k) 1 rfl [.ptr d 0, i room, .map k.bm, V, i k.h, i k.m, i k.e, i k.w]
  have x5 := S5.cell (a := c) (vs := [.ptr d 0, i room, .map k.bm, V, i k.h, i k.m, i k.e, i k.w]) 1 rfl
  have S6 := S5.store (a := c) (vs := [.ptr d 0, i room, .map k.bm, V, i k.h, i k.m, i k.e, i k.w]) 1 rfl [.ptr d 0, i room, .map k.bm, V, i k.h, i k.m, i (IntKind.i64.wrap (k.e + 1)), i k.w]
  have cV := R4.cell
  have hlt2 : h.next < h3.next := Nat.lt_of_lt_of_le (Nat.lt_succ_self _) f2.le
  have ht4 : h4.get h.next = some (.cells [.ptr c 0] .ex) := by
    rw [f4.eq h.next hlt2 fun hq => by have := Sp.lt (T := Thing.vec intE k.OV ord) 2 rfl (a := h.next) hq; omega]
    exact ht2
  have hne : h.next ≠ c := by have := Sp.lt (T := Thing.cells c (cells8 d room k)) 1 rfl (a := c) rfl; omega
  have ht5 : (h4.set c (.cells [.ptr d 0, i room, .map k.bm, V, i k.h, i k.m, i k.e, i k.w] .ex)).get h.next = some (.cells [.ptr c 0] .ex) := by
    rw [get_set_ne _ _ hne]; exact ht4
  simp only [i, cells8] at x4 x5 ht5
  simp (disch := omega) only [sh, sh2, shs, i, ht4, store_o _ _ _ cV, x4, ht5, x5, binL_add_int, true_and]
  refine .inr (.inr ⟨hr', ord.take w, n, ord.drop (w + 1), x, { k with OV := V, e := IntKind.i64.wrap (k.e + 1), nb := nb' }, hsp, hx, hxt, ?_⟩)
  have hup : upd (fun n => (bget xs n).map BX.ptr) n none = fun m => (bget (rest n xs) m).map BX.ptr := by
    funext m
    rw [bget_rest]
    by_cases hm : m = n
    · subst hm; rw [upd_at]; simp
    · rw [upd_ne _ _ hm, if_neg hm]
  rw [hup] at S6
  refine S6.sub (.cons₂ _ (.cons₂ _ (.cons₂ _ (.cons₂ _ ?_))))
  exact sub_flat (rest_sub n xs) _
end
end Go.Proofs.Ytoajcekgoalhjaa
