/-
  parapetref07: Handle.
-/
import Derived.Test.YtgncgokjbakdmaaTp6
set_option linter.all false
namespace Go.Proofs.Ytgncgokjbakdmaa
open Go.ChangeShapes Go.WideShapes Go.ChangeAt Go.RowKit Go.Lm
set_option linter.unusedSimpArgs false
set_option maxRecDepth 10000
def offH (a : Int) (l : List Int) : List Int := l.filter fun b => !(b == a)
def hstep (a : Int) (st : RSt) (j : Nat) : RSt := match st.all[j]? with
  | some p => if a ∈ p.2 then { rflush st a p.1 with all := st.all.set j (p.1, offH a p.2) } else st
  | none => st
theorem hstep_len (a : Int) (st : RSt) (j : Nat) : (hstep a st j).all.length = st.all.length := by
  unfold hstep
  split
  · split
    · simp
    · rfl
  · rfl
theorem hstep_other (a : Int) (st : RSt) {j m : Nat} (h : j ≠ m) : (hstep a st j).all[m]? = st.all[m]? := by
  unfold hstep
  split
  · split
    · exact List.getElem?_set_ne h
    · rfl
  · rfl
section
variable {F : Nat → Prop} {g h h' : LHeap} {x k : Nat} {size : Int} {HV AV : LV} {hs : List RH} {ss : List SX} {Zs : List Thing} {st : RSt} {S : Nat → Prop}
def RAt (F : Nat → Prop) (g h : LHeap) (x : Nat) (st : RSt) (Zs : List Thing) : Prop := ∃ HV AV hs ss, Sep F g h (RTs x st.size HV AV hs ss ++ Zs) ∧ hs.map (·.2) = st.harts ∧ ss.map SX.pr = st.all ∧ (∀ (j : Nat) s, ss[j]? = some s → s.id = j + 1) ∧ RWf st
theorem RAt.of (Sp : Sep F g h (RBox x S st :: Zs)) : RAt F g h x st Zs := by
  obtain ⟨Ts, ⟨HV, AV, hs, ss, rfl, hh, hal, hid, w⟩, S1⟩ := box_open (Sp.at (T := RBox x S st) 0 rfl) (Sp.boxlt (D := RD x) (S := S) (x := st) 0 rfl)
  exact ⟨HV, AV, hs, ss, Sp.callF (T := RBox x S st) rfl S1, hh, hal, hid, w⟩
theorem RAt.to_box (A : RAt F g h x st Zs) : ∃ S', Sep F g h (RBox x S' st :: Zs) := by
  obtain ⟨HV, AV, hs, ss, Sp, hh, hal, hid, w⟩ := A
  have S1 : Sep F g h (Zs ++ RTs x st.size HV AV hs ss) := Sp.perm List.perm_append_comm
  obtain ⟨S', S2⟩ := S1.boxed (D := RD x) (x := st) ⟨HV, AV, hs, ss, rfl, hh, hal, hid, w⟩
  exact ⟨S', S2.perm List.perm_append_comm⟩
theorem rt_set_s {s : SX} (hk : ss[k]? = some s) (s' : SX) : ((RTs x size HV AV hs ss).set (3 + hs.length + k) s'.T).set 2 (Thing.vec shE AV ((ss.map SX.hd).set k s'.hd)) = RTs x size HV AV hs (ss.set k s') := by
  have hl := (List.getElem?_eq_some_iff.1 hk).1
  have e1 : (RTs x size HV AV hs ss).set (3 + hs.length + k) s'.T = [Thing.cells x [i size, HV, AV], Thing.vec slE HV (hs.map (·.1)), Thing.vec shE AV (ss.map SX.hd)] ++ (hs.map hT ++ (ss.set k s').map SX.T) := by
    rw [RTs, List.set_append_right _ _ (by simp; omega), List.set_append_right _ _ (by simp; omega)]
    have : 3 + hs.length + k - [Thing.cells x [i size, HV, AV], Thing.vec slE HV (hs.map (·.1)), Thing.vec shE AV (ss.map SX.hd)].length - (hs.map hT).length = k := by simp; omega
    rw [this, List.map_set]
  rw [e1, RTs, ← List.map_set]
  rfl
/-- A shootdown's list is another one. -/
theorem rset_s {s : SX} {V : LV} {l : List Int} (hk : ss[k]? = some s) (cV : V.cell = true) (Sp : Sep F g h (RTs x size HV AV hs ss ++ Zs ++ [Thing.vec intE V l])) :
    ∃ a off h', AV.at 3 k = .ptr a off ∧ storeV 1 (.ptr a (off + 2)) V h = some h' ∧ Sep F g h' (RTs x size HV AV hs (ss.set k { s with V := V, left := l }) ++ Zs) ∧ h'.next = h.next := by
  have hl := (List.getElem?_eq_some_iff.1 hk).1
  have h1 : (ss.map SX.hd)[k]? = some s.hd := by rw [List.getElem?_map, hk]; rfl
  obtain ⟨a, off, H, e1, e2, S1, n1, _⟩ := Sp.stf (V := AV) (E := shE) (l := ss.map SX.hd) 2 rfl (k := k) (j := 2) (s.id, s.sp, V) cV h1 (by decide) (by simp [shE, SX.hd, cellOr_eq cV])
  have he : shE.e = 3 := rfl
  rw [he] at e1
  refine ⟨a, off, H, e1, e2, ?_, n1⟩
  have S2 : Sep F g H ((RTs x size HV AV hs ss).set 2 (Thing.vec shE AV ((ss.map SX.hd).set k (s.id, s.sp, V))) ++ Zs ++ [Thing.vec intE V l]) := S1
  have hlen : 3 + hs.length + k < ((RTs x size HV AV hs ss).set 2 (Thing.vec shE AV ((ss.map SX.hd).set k (s.id, s.sp, V)))).length := by rw [List.length_set]; simp [RTs]; omega
  have hi : ((RTs x size HV AV hs ss).set 2 (Thing.vec shE AV ((ss.map SX.hd).set k (s.id, s.sp, V))) ++ Zs)[3 + hs.length + k]? = some s.T := by
    rw [List.getElem?_append_left hlen, List.getElem?_set_ne (by omega)]
    have := rt_s (x := x) (size := size) (HV := HV) (AV := AV) (hs := hs) (Zs := []) hk
    rwa [List.append_nil] at this
  have S3 := S2.move hi
  rw [List.set_append_left _ _ hlen, List.set_comm _ _ (by omega)] at S3
  have := rt_set_s (x := x) (size := size) (HV := HV) (AV := AV) (hs := hs) hk { s with V := V, left := l }
  rw [show ({ s with V := V, left := l } : SX).T = Thing.vec intE V l from rfl, show ({ s with V := V, left := l } : SX).hd = (s.id, s.sp, V) from rfl] at this
  rw [this] at S3
  exact S3
end
end Go.Proofs.Ytgncgokjbakdmaa
