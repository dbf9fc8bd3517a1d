/-
  buf: what the calls make of a cache, plain; Read.
-/
import Derived.Test.YtoajcekgoalhjaaBf6
set_option linter.all false
namespace Go.Proofs.Ytoajcekgoalhjaa
open Go.ChangeShapes Go.WideShapes Go.ChangeAt Go.RowKit Go.Lm
set_option linter.unusedSimpArgs false
set_option maxRecDepth 10000
/-! ### plain -/
noncomputable def CSt.put (st : CSt) (n : Int) (b : List Int) (t : Bool) : CSt := { st with ord := (st.ord.filter fun x => !(x == n)) ++ [n], bs := upd st.bs n (some (b, t)) }
noncomputable def CSt.gone (st : CSt) (ord : List Int) (n : Int) : CSt := { st with ord := ord, bs := upd st.bs n none }
/-- Nobody sees the difference. -/
structure Same (st st' : CSt) : Prop where
  room : st'.room = st.room
  d : st'.d = st.d
  view : st'.view = st.view
  dty : st'.dty = st.dty
theorem Same.refl (st : CSt) : Same st st := ⟨rfl, rfl, rfl, rfl⟩
theorem Same.trans {a b c : CSt} (h : Same a b) (k : Same b c) : Same a c := ⟨k.room.trans h.room, k.d.trans h.d, k.view.trans h.view, k.dty.trans h.dty⟩
theorem filt_nd {l : List Int} (h : l.Nodup) (n : Int) : ((l.filter fun x => !(x == n)) ++ [n]).Nodup := by
  rw [List.nodup_append]
  refine ⟨h.sublist List.filter_sublist, by simp, fun a ha b hb => ?_⟩
  simp only [List.mem_singleton] at hb
  subst hb
  simpa using (List.mem_filter.1 ha).2
theorem filt_len {l : List Int} {n : Int} (h : n ∈ l) : (l.filter fun x => !(x == n)).length < l.length := by
  refine List.length_filter_lt_length_iff_exists.2 ⟨n, h, by simp⟩
theorem CWf.put {st : CSt} (w : CWf st) {n : Int} {b : List Int} {t : Bool} (hr : 0 ≤ n ∧ n < st.d.cnt) (hb : b.length = 512) (ht : t = false → b = st.d.rd n) (hl : n ∈ st.ord ∨ (st.ord.length : Int) < st.room) : CWf (st.put n b t) := by
  refine ⟨w.dw, w.r1, w.r2, filt_nd w.nd n, ?_, fun m => ?_, fun m b' t' h => ?_⟩
  · show ((((st.ord.filter fun x => !(x == n)) ++ [n]).length : Nat) : Int) ≤ st.room
    rw [List.length_append, List.length_singleton]
    have := w.le
    rcases hl with h | h
    · have := filt_len h; omega
    · have : (st.ord.filter fun x => !(x == n)).length ≤ st.ord.length := List.length_filter_le _ _
      omega
  · show m ∈ (st.ord.filter fun x => !(x == n)) ++ [n] ↔ (upd st.bs n (some (b, t)) m).isSome = true
    by_cases hm : m = n
    · subst hm; rw [upd_at]; simp
    · rw [upd_ne _ _ hm, ← w.mem m]; simp [hm]
  · have h : upd st.bs n (some (b, t)) m = some (b', t') := h
    by_cases hm : m = n
    · subst hm
      rw [upd_at] at h
      cases h
      exact ⟨hr, hb, ht⟩
    · rw [upd_ne _ _ hm] at h
      exact w.blk m b' t' h
theorem CWf.gone {st : CSt} (w : CWf st) {a b : List Int} {n : Int} (ho : st.ord = a ++ n :: b) : CWf (st.gone (a ++ b) n) := by
  have nd := w.nd
  rw [ho] at nd
  have hn : n ∉ a ++ b := by
    rw [List.nodup_append] at nd
    obtain ⟨h1, h2, h3⟩ := nd
    rw [List.nodup_cons] at h2
    intro h
    rcases List.mem_append.1 h with h | h
    · exact h3 n h n (List.mem_cons_self ..) rfl
    · exact h2.1 h
  refine ⟨w.dw, w.r1, w.r2, nd.sublist (List.Sublist.append (List.Sublist.refl _) (List.sublist_cons_self _ _)), ?_, fun m => ?_, fun m b' t' h => ?_⟩
  · have := w.le
    rw [ho] at this
    simp only [List.length_append, List.length_cons] at this
    show (((a ++ b).length : Nat) : Int) ≤ st.room
    rw [List.length_append]; omega
  · show m ∈ a ++ b ↔ (upd st.bs n none m).isSome = true
    by_cases hm : m = n
    · subst hm; rw [upd_at]; simp [hn]
    · rw [upd_ne _ _ hm, ← w.mem m, ho]; simp [hm]
  · have h : upd st.bs n none m = some (b', t') := h
    by_cases hm : m = n
    · subst hm; rw [upd_at] at h; cases h
    · rw [upd_ne _ _ hm] at h; exact w.blk m b' t' h
theorem same_gone {st : CSt} (w : CWf st) {n : Int} {b : List Int} (h : st.bs n = some (b, false)) (ord : List Int) : Same st (st.gone ord n) := by
  refine ⟨rfl, rfl, ?_, ?_⟩
  · funext m
    show (match upd st.bs n none m with | some (b, _) => b | none => st.d.rd m) = st.view m
    by_cases hm : m = n
    · subst hm
      rw [upd_at, CSt.view, h]
      exact ((w.blk m b false h).2.2 rfl).symm
    · rw [upd_ne _ _ hm]; rfl
  · funext m
    show (match upd st.bs n none m with | some (_, t) => t | none => false) = st.dty m
    by_cases hm : m = n
    · subst hm; rw [upd_at, CSt.dty, h]
    · rw [upd_ne _ _ hm]; rfl
theorem view_put (st : CSt) (n : Int) (b : List Int) (t : Bool) (m : Int) : (st.put n b t).view m = if m = n then b else st.view m := by
  show (match upd st.bs n (some (b, t)) m with | some (b, _) => b | none => st.d.rd m) = _
  by_cases hm : m = n
  · subst hm; rw [upd_at, if_pos rfl]
  · rw [upd_ne _ _ hm, if_neg hm]; rfl
theorem dty_put (st : CSt) (n : Int) (b : List Int) (t : Bool) (m : Int) : (st.put n b t).dty m = if m = n then t else st.dty m := by
  show (match upd st.bs n (some (b, t)) m with | some (_, t) => t | none => false) = _
  by_cases hm : m = n
  · subst hm; rw [upd_at, if_pos rfl]
  · rw [upd_ne _ _ hm, if_neg hm]; rfl
theorem same_put_in {st : CSt} {n : Int} {b : List Int} {t : Bool} (h : st.bs n = some (b, t)) : Same st (st.put n b t) := by
  refine ⟨rfl, rfl, ?_, ?_⟩
  · funext m
    rw [view_put]
    by_cases hm : m = n
    · subst hm; rw [if_pos rfl, CSt.view, h]
    · rw [if_neg hm]
  · funext m
    rw [dty_put]
    by_cases hm : m = n
    · subst hm; rw [if_pos rfl, CSt.dty, h]
    · rw [if_neg hm]
theorem same_put_new {st : CSt} {n : Int} (h : st.bs n = none) : Same st (st.put n (st.d.rd n) false) := by
  refine ⟨rfl, rfl, ?_, ?_⟩
  · funext m
    rw [view_put]
    by_cases hm : m = n
    · subst hm; rw [if_pos rfl, CSt.view, h]
    · rw [if_neg hm]
  · funext m
    rw [dty_put]
    by_cases hm : m = n
    · subst hm; rw [if_pos rfl, CSt.dty, h]
    · rw [if_neg hm]
/-! ### in the heap -/
/-- A cache, and what else there is. -/
def CAt (F : Nat → Prop) (g h : LHeap) (d c : Nat) (st : CSt) (Zs : List Thing) : Prop := ∃ k xs, Sep F g h (CTs d c st.room k st.d st.ord xs ++ Zs) ∧ (st.bs = fun n => (bget xs n).map fun x => (x.b, x.t)) ∧ (xs.map BX.n).Nodup ∧ CWf st
section
variable {F : Nat → Prop} {g h h' : LHeap} {d c : Nat} {room : Int} {k : CC} {ds : DSt} {ord : List Int} {xs : List BX} {Zs : List Thing} {st : CSt} {S : Nat → Prop}
theorem CAt.of_box (B : (CBox d c S st).ok g) (lt : ∀ a, S a → a < g.next) : CAt S g g d c st [] := by
  obtain ⟨Ts, ⟨k, xs, rfl, hb, nd, w⟩, Sp⟩ := box_open B lt
  exact ⟨k, xs, by rw [List.append_nil]; exact Sp, hb, nd, w⟩
theorem CAt.to_box (A : CAt F g h d c st Zs) : ∃ S', Sep F g h (CBox d c S' st :: Zs) := by
  obtain ⟨k, xs, Sp, hb, nd, w⟩ := A
  have S1 : Sep F g h (Zs ++ CTs d c st.room k st.d st.ord xs) := Sp.perm List.perm_append_comm
  obtain ⟨S', S2⟩ := S1.boxed (D := CD d c) (x := st) ⟨k, xs, rfl, hb, nd, w⟩
  exact ⟨S', S2.perm List.perm_append_comm⟩
end
end Go.Proofs.Ytoajcekgoalhjaa
