/-
  The logical machine, part R: a claim's call is entered; a call that only reads what there is leaves it as it was.
-/
import Derived.Test.YtaofgdibpbpalaaLmQ
namespace Go.Lm

variable {P : Program} {W : World} {keep : Nat → Prop} {ρ : Ren} {g : LHeap} {w : World}

def emp (n : Nat) : LHeap := { get := fun _ => none, next := n }

/-- Into the kit's own contract. -/
theorem Ok.enter {f : FuncId} {args : List LV} {K : LV → LHeap → Prop} (h : Ok P f args g K) (hr : Rel w (fun b => b < w.heap.size) ρ g w) (ha : oks ρ g.next args) (hK : ∀ v g', K v g' → v = .bool true) :
    Calls P f (toVs ρ args).toArray w fun e w' => e = .returned (.bool true) ∧ RowKit.Below w.heap.size w w' :=
  (h.2 w _ ρ w hr ha).mono fun e w' ⟨v, g', ρ', h1, h2, h3⟩ => by
    have := hK _ _ h3
    subst this
    exact ⟨h1, ⟨h2.rel.os, h2.rel.tape, h2.rel.output, h2.rel.size, fun k hk => (h2.rel.kept k hk).2⟩⟩

theorem rel_emp (w : World) (ρ : Ren) (n : Nat) : Rel w (fun b => b < w.heap.size) ρ (emp n) w :=
  ⟨rfl, rfl, rfl, Nat.le_refl _, fun _ hb => ⟨hb, rfl⟩, fun i o h => (by simp [emp] at h), fun i j o p h => (by simp [emp] at h), fun i o h => (by simp [emp] at h)⟩

/-- A heap of which only some objects are looked at, and those only read. -/
def LObj.asRo : LObj → LObj
  | .cells vs _ => .cells vs .ro
  | .map es c _ => .map es c .ro
  | o => o
structure Reads (r g : LHeap) : Prop where
  next : r.next = g.next
  get : ∀ i o, r.get i = some o → o.mine = false ∧ ∃ o', g.get i = some o' ∧ o = o'.asRo
/-- g, with what was made behind it. -/
def LHeap.over (g g0 : LHeap) : LHeap :=
  { get := fun i => if i < g.next then g.get i else match g0.get i with | some o => if o.mine then some o else none | none => none, next := g0.next }

theorem ObjR.asRo {n i : Nat} {o : LObj} (h : ObjR ρ n w i o) (hm : o.asRo.mine = false) : ObjR ρ n w i o.asRo := by
  cases o with
  | cells vs own =>
    obtain ⟨h1, h2, C, ty, fz, h3, h4, h5, _, _⟩ := h
    exact ⟨h1, h2, C, ty, fz, h3, h4, h5, fun e => (e rfl).elim, fun e => by cases e⟩
  | map es c own => exact h
  | strIter s p => cases hm
  | mapIter a b c d => cases hm

theorem rel_reads {r : LHeap} (hr : Reads r g) (h : Rel W keep ρ g w) : Rel w (fun b => b < w.heap.size) ρ r w := by
  refine ⟨rfl, rfl, rfl, Nat.le_refl _, fun _ hb => ⟨hb, rfl⟩, fun i o hi => ?_, fun i j o p hi hj _ hm => ?_, fun i o hi hm => ?_⟩
  · obtain ⟨h1, o', h2, rfl⟩ := hr.get i o hi
    obtain ⟨h3, h4⟩ := h.obj i o' h2
    rw [hr.next]
    exact ⟨h3, h4.asRo h1⟩
  · rw [(hr.get i o hi).1, (hr.get j p hj).1] at hm
    simp at hm
  · rw [(hr.get i o hi).1] at hm
    cases hm

theorem rel_over {ρ' : Ren} {g0 : LHeap} {w' : World} (h : Rel W keep ρ g w) (h' : Rel w (fun b => b < w.heap.size) ρ' g0 w') (hx : Ren.Ext g.next ρ ρ') (hn : g.next ≤ g0.next) : Rel W keep ρ' (g.over g0) w' := by
  have split : ∀ i o, (g.over g0).get i = some o → (i < g.next ∧ g.get i = some o) ∨ (g.next ≤ i ∧ g0.get i = some o ∧ o.mine = true) := by
    intro i o hi
    simp only [LHeap.over] at hi
    split at hi
    · exact .inl ⟨by assumption, hi⟩
    · split at hi
      · split at hi
        · cases hi; exact .inr ⟨by omega, by assumption, by assumption⟩
        · cases hi
      · cases hi
  have low : ∀ i o, i < g.next → g.get i = some o → ρ'.blk i < w.heap.size := fun i o hi ho => by
    rw [(hx i hi).1]; exact (h.obj i o ho).2.lt
  have high : ∀ i o, g0.get i = some o → o.mine = true → w.heap.size ≤ ρ'.blk i := fun i o ho hm => by
    have := h'.mine i o ho hm
    omega
  refine ⟨h'.os.trans h.os, h'.tape.trans h.tape, h'.output.trans h.output, Nat.le_trans h.size h'.size, fun b hb => ?_, fun i o hi => ?_, fun i j o p hi hj hij hm => ?_, fun i o hi hm => ?_⟩
  · obtain ⟨h1, h2⟩ := h.kept b hb
    exact ⟨h1, (h'.kept b (Nat.lt_of_lt_of_le h1 h.size)).2.trans h2⟩
  · rcases split i o hi with ⟨h1, h2⟩ | ⟨h1, h2, h3⟩
    · refine ⟨Nat.lt_of_lt_of_le h1 hn, ?_⟩
      have h4 := (h.obj i o h2).2
      have h5 : ObjR ρ g.next w' i o := h4.heap (h'.kept _ h4.lt).2
      exact h5.ext h1 hx hn
    · exact h'.obj i o h2
  · rcases split i o hi with ⟨h1, h2⟩ | ⟨h1, h2, h3⟩
    · rcases split j p hj with ⟨k1, k2⟩ | ⟨k1, k2, k3⟩
      · rw [(hx i h1).1, (hx j k1).1]; exact h.inj i j o p h2 k2 hij hm
      · have := low i o h1 h2; have := high j p k2 k3; omega
    · rcases split j p hj with ⟨k1, k2⟩ | ⟨k1, k2, k3⟩
      · have := low j p k1 k2; have := high i o h2 h3; omega
      · exact h'.inj i j o p h2 k2 hij hm
  · rcases split i o hi with ⟨h1, h2⟩ | ⟨h1, h2, h3⟩
    · rw [(hx i h1).1]; exact h.mine i o h2 hm
    · intro hk
      have := (h.kept _ hk).1
      have := high i o h2 h3
      have := h.size
      omega

/-- A call that only reads what there is. -/
theorem Ok.frame {f : FuncId} {args : List LV} {r : LHeap} {K : LV → LHeap → Prop} (h : Ok P f args r K) (hr : Reads r g) : Ok P f args g fun v g' => ∃ g0, K v g0 ∧ g' = g.over g0 := by
  refine ⟨h.1, fun W keep ρ w hrel ha => ?_⟩
  refine (h.2 w _ ρ w (rel_reads hr hrel) (by rw [hr.next]; exact ha)).mono ?_
  rintro e w' ⟨v, g0, ρ', h1, h2, h3⟩
  have hx := h2.ext
  rw [hr.next] at hx
  have hn := h2.le
  rw [hr.next] at hn
  exact ⟨v, g.over g0, ρ', h1, ⟨hx, rel_over hrel h2.rel hx hn, h2.ok, hn⟩, g0, h3, rfl⟩

/-! ### Values that name no object -/
mutual
def LV.flat : LV → Bool
  | .ptr _ _ | .slice _ _ _ _ | .tail _ _ _ _ _ | .map _ => false
  | .func _ first caps => flats first && flats caps
  | .iface _ v => v.flat
  | .agg cs => flats cs
  | .tuple vs => flats vs
  | _ => true
def flats : List LV → Bool
  | [] => true
  | v :: vs => v.flat && flats vs
end
mutual
theorem LV.flat_toV {ρ ρ' : Ren} : (v : LV) → v.flat = true → v.toV ρ' = v.toV ρ
  | .ptr a _, hl => by simp [LV.flat] at hl
  | .slice _ _ _ _, hl => by simp [LV.flat] at hl
  | .tail _ _ _ _ _, hl => by simp [LV.flat] at hl
  | .map a, hl => by simp [LV.flat] at hl
  | .func _ first caps, hl => by
    simp only [LV.flat, Bool.and_eq_true] at hl
    simp only [LV.toV, flats_toV first hl.1 (ρ := ρ) (ρ' := ρ'), flats_toV caps hl.2 (ρ := ρ) (ρ' := ρ')]
  | .iface _ v, hl => by simp only [LV.toV, v.flat_toV (ρ := ρ) (ρ' := ρ') (by simpa only [LV.flat] using hl)]
  | .agg cs, hl => by simp only [LV.toV, flats_toV (ρ := ρ) (ρ' := ρ') cs (by simpa only [LV.flat] using hl)]
  | .tuple vs, hl => by simp only [LV.toV, flats_toV (ρ := ρ) (ρ' := ρ') vs (by simpa only [LV.flat] using hl)]
  | .bool _, _ | .int _ _, _ | .str _, _ | .nilp, _ | .nils, _ | .nilm, _ | .nilf, _ | .nili, _ => by simp only [LV.toV]
theorem flats_toV {ρ ρ' : Ren} : (l : List LV) → flats l = true → toVs ρ' l = toVs ρ l
  | [], _ => rfl
  | v :: vs, hl => by
    simp only [flats, Bool.and_eq_true] at hl
    simp only [toVs, v.flat_toV (ρ := ρ) (ρ' := ρ') hl.1, flats_toV (ρ := ρ) (ρ' := ρ') vs hl.2]
end
mutual
theorem LV.flat_ok {ρ : Ren} {n : Nat} : (v : LV) → v.flat = true → v.ok ρ n
  | .ptr a _, hl => by simp [LV.flat] at hl
  | .slice _ _ _ _, hl => by simp [LV.flat] at hl
  | .tail _ _ _ _ _, hl => by simp [LV.flat] at hl
  | .map a, hl => by simp [LV.flat] at hl
  | .func _ first caps, hl => by
    simp only [LV.flat, Bool.and_eq_true] at hl
    exact ⟨flats_ok first hl.1, flats_ok caps hl.2⟩
  | .iface _ v, hl => by simp only [LV.ok]; exact v.flat_ok (by simpa only [LV.flat] using hl)
  | .agg cs, hl => by simp only [LV.ok]; exact flats_ok cs (by simpa only [LV.flat] using hl)
  | .tuple vs, hl => by simp only [LV.ok]; exact flats_ok vs (by simpa only [LV.flat] using hl)
  | .bool _, _ | .int _ _, _ | .str _, _ | .nilp, _ | .nils, _ | .nilm, _ | .nilf, _ | .nili, _ => by simp only [LV.ok]
theorem flats_ok {ρ : Ren} {n : Nat} : (l : List LV) → flats l = true → oks ρ n l
  | [], _ => by simp [oks]
  | v :: vs, hl => by
    simp only [flats, Bool.and_eq_true] at hl
    exact ⟨v.flat_ok hl.1, flats_ok vs hl.2⟩
end

/-- A call that is handed no object and gives none back: whatever else there is, it stays. -/
theorem Ok.alone {f : FuncId} {args : List LV} {K : LV → LHeap → Prop} (h : Ok P f args (emp 0) K) (ha : flats args = true) (hv : ∀ v g0, K v g0 → v.flat = true) : Ok P f args g fun v g' => g' = g ∧ ∃ g0, K v g0 := by
  refine ⟨h.1, fun W keep ρ w hrel _ => ?_⟩
  refine (h.2 w _ ρ w (rel_emp w ρ 0) (flats_ok _ ha)).mono ?_
  rintro e w' ⟨v, g0, ρ', h1, h2, h3⟩
  have hf := hv _ _ h3
  refine ⟨v, g, ρ, by rw [h1, LV.flat_toV (ρ := ρ) v hf], ⟨Ren.Ext.refl _ _, ?_, LV.flat_ok v hf, Nat.le_refl _⟩, rfl, g0, h3⟩
  refine ⟨h2.rel.os.trans hrel.os, h2.rel.tape.trans hrel.tape, h2.rel.output.trans hrel.output, Nat.le_trans hrel.size h2.rel.size, fun b hb => ?_, fun i o hi => ?_, hrel.inj, hrel.mine⟩
  · obtain ⟨k1, k2⟩ := hrel.kept b hb
    exact ⟨k1, (h2.rel.kept b (Nat.lt_of_lt_of_le k1 hrel.size)).2.trans k2⟩
  · obtain ⟨k1, k2⟩ := hrel.obj i o hi
    exact ⟨k1, k2.heap (h2.rel.kept _ k2.lt).2⟩

end Go.Lm
