/-
  The logical machine, part D: each operation of the model does what the logical machine says.
-/
import Derived.Test.YtaofgdibpbpalaaLmC
namespace Go.Lm

variable {P : Program} {W : World} {keep : Nat → Prop} {ρ : Ren} {g : LHeap} {w : World}

/-- A heap and a value that come behind g: laid out, and nothing of what was named before has moved. -/
structure Post (W : World) (keep : Nat → Prop) (ρ : Ren) (g : LHeap) (v : LV) (g' : LHeap) (ρ' : Ren) (w' : World) : Prop where
  ext : Ren.Ext g.next ρ ρ'
  rel : Rel W keep ρ' g' w'
  ok : v.ok ρ' g'.next
  le : g.next ≤ g'.next

theorem Post.same {v : LV} (h : Rel W keep ρ g w) (hv : v.ok ρ g.next) : Post W keep ρ g v g ρ w := ⟨Ren.Ext.refl _ _, h, hv, Nat.le_refl _⟩

/-- a run that yields v and leaves the world alone -/
def Yields1 (P : Program) (ρ : Ren) (n : Nat) (w : World) (s : Sem Value) (v : LV) : Prop := s.run P w = .ok (v.toV ρ) w ∧ v.ok ρ n
/-- a run that yields v, in the heap g' -/
def Makes (P : Program) (W : World) (keep : Nat → Prop) (ρ : Ren) (g : LHeap) (w : World) (s : Sem Value) (v : LV) (g' : LHeap) : Prop :=
  ∃ ρ' w', s.run P w = .ok (v.toV ρ') w' ∧ Post W keep ρ g v g' ρ' w'
/-- a run that turns the heap to g' -/
def Turns (P : Program) (W : World) (keep : Nat → Prop) (ρ : Ren) (g : LHeap) (w : World) (s : Sem Unit) (g' : LHeap) : Prop :=
  ∃ w', s.run P w = .ok () w' ∧ Rel W keep ρ g' w' ∧ g'.next = g.next

/-! ### Types -/
theorem aggN_spec {t : TypeId} {n : Option Nat} (h : aggN P t = some n) : ∃ d i, P.underlying t = some d ∧ P.info? t = some i ∧ n = if isAggD d then some i.size else none := by
  unfold aggN at h
  split at h
  · rename_i d i h1 h2
    exact ⟨d, i, h1, h2, (Option.some.inj h).symm⟩
  · cases h
theorem sizeL_spec {t : TypeId} {n : Nat} (h : sizeL P t = some n) : ∃ i, P.info? t = some i ∧ i.size = n := by
  unfold sizeL at h
  obtain ⟨i, h1, h2⟩ := Option.map_eq_some_iff.1 h
  exact ⟨i, h1, h2⟩
theorem run_sizeL {t : TypeId} {n : Nat} (h : sizeL P t = some n) (w : World) : (sizeOf t).run P w = .ok n w := by
  obtain ⟨i, h1, h2⟩ := sizeL_spec h
  rw [run_sizeOf' h1, h2]
theorem run_zeroL {t : TypeId} {z : LV} (h : zeroL P t = some z) (ρ : Ren) (n : Nat) (w : World) : (zeroValue t).run P w = .ok (z.toV ρ) w ∧ z.ok ρ n := by
  unfold zeroL at h
  split at h
  · rename_i i hi
    split at h
    · rename_i v hv
      obtain ⟨h1, h2⟩ := ofV_ok ρ n _ _ _ h
      exact ⟨by rw [run_zeroValue' hi hv, h1], h2⟩
    · cases h
  · cases h
theorem run_sliceElem {t e : TypeId} (h : sliceElem P t = some e) (w : World) : (underlying t).run P w = .ok (.slice e) w := by
  unfold sliceElem at h
  split at h
  · rename_i d hd; cases h; exact run_underlying' hd w
  · cases h
theorem run_mapShape {t k e : TypeId} (h : mapShape P t = some (k, e)) (w : World) : (underlying t).run P w = .ok (.map k e) w := by
  unfold mapShape at h
  split at h
  · rename_i d hd; cases h; exact run_underlying' hd w
  · cases h

/-! ### Loads and stores -/
theorem sim_load {t : TypeId} {x v : LV} (h : Rel W keep ρ g w) (hl : loadT P t x g = some v) : Yields1 P ρ g.next w (Instr.loadAt t (x.toV ρ)) v := by
  unfold loadT at hl
  split at hl
  · rename_i n hn
    obtain ⟨d, i, hd, hi, rfl⟩ := aggN_spec hn
    unfold loadV at hl
    split at hl
    · rename_i a off
      split at hl
      · rename_i vs own hg
        have hoks := h.oks hg
        unfold Yields1
        simp only [LV.toV, Instr.loadAt, Instr.sureAddr]
        rw [run_bind_ok (run_pure P _ w)]
        simp only [loadVar]
        rw [run_bind_ok (run_isAgg hd w)]
        by_cases hag : isAggD d = true
        · simp only [hag, if_true] at hl ⊢
          split at hl
          · rename_i hle
            cases hl
            rw [run_bind_ok (run_sizeOf' hi w), run_bind_ok (run_loadCells h hg hle)]
            refine ⟨rfl, ?_⟩
            simp only [LV.ok]
            exact (oks_iff _ _ _).2 fun v hv => (oks_iff _ _ _).1 hoks v (List.mem_of_mem_drop (List.mem_of_mem_take hv))
          · cases hl
        · simp only [hag] at hl ⊢
          simp only [Bool.false_eq_true, if_false] at hl ⊢
          exact ⟨run_load (h.cell hg hl rfl), (oks_iff _ _ _).1 hoks v (List.mem_of_getElem? hl)⟩
      · cases hl
    · cases hl
  · cases hl

theorem sim_storeCells {a off : Nat} {new : List LV} {g' : LHeap} (h : Rel W keep ρ g w) (hs : storeCellsL a off new g = some g') (hok : oks ρ g.next new) :
    Turns P W keep ρ g w (storeCells (ρ.addr a off) (toVs ρ new)) g' := by
  unfold storeCellsL at hs
  split at hs
  · rename_i vs own hg
    split at hs
    · rename_i hc
      cases hs
      obtain ⟨w', h1, h2⟩ := run_storeCells (P := P) h hg hc.1 hc.2.1 hok (fun v hv => List.all_eq_true.1 hc.2.2 v hv)
      exact ⟨w', h1, h2, rfl⟩
    · cases hs
  · cases hs
theorem sim_store {t : TypeId} {x v : LV} {g' : LHeap} (h : Rel W keep ρ g w) (hs : storeT P t x v g = some g') (hok : v.ok ρ g.next) :
    Turns P W keep ρ g w (Instr.storeAt t (x.toV ρ) (v.toV ρ)) g' := by
  unfold storeT at hs
  split at hs
  · rename_i n hn
    unfold storeV at hs
    split at hs
    · rename_i a off
      split at hs
      · rename_i hlen
        obtain ⟨w', h1, h2⟩ := sim_storeCells (P := P) h hs (LV.cells_ok hok)
        refine ⟨w', ?_, h2⟩
        simp only [LV.toV, Instr.storeAt, Instr.sureAddr]
        rw [run_bind_ok (run_pure P _ w)]
        simp only [storeVar]
        rw [run_bind_ok (run_sizeL hn w)]
        rw [LV.cells_toV]
        rw [if_neg (by simp [toVs_length, hlen])]
        exact h1
      · cases hs
    · cases hs
  · cases hs

theorem sim_new {v r : LV} {g' : LHeap} {ty : TypeId} (h : Rel W keep ρ g w) (hn : newL v g = some (r, g')) (hok : v.ok ρ g.next) :
    ∃ ρ' w', (newVar ty (v.toV ρ)).run P w = .ok (match r.toV ρ' with | .pointer (some a) => a | _ => default) w' ∧ r = .ptr g.next 0 ∧ Post W keep ρ g r g' ρ' w' := by
  unfold newL at hn
  split at hn
  · rename_i hc
    cases hn
    refine ⟨ρ.put g.next w.heap.size 0 0, { w with heap := w.heap.push (.cells (toVs ρ v.cells).toArray ty) }, ?_, rfl, Ren.put_ext _ _ _ _ _, h.newCells (LV.cells_ok hok) (fun u hu => List.all_eq_true.1 hc u hu), ?_, ?_⟩
    · unfold newVar
      rw [LV.cells_toV, run_newRow]
      simp only [LV.toV, Ren.put_addr]
    · simp [LV.ok]
    · simp
  · cases hn
theorem sim_newPtr {v r : LV} {g' : LHeap} {ty : TypeId} (h : Rel W keep ρ g w) (hn : newL v g = some (r, g')) (hok : v.ok ρ g.next) :
    Makes P W keep ρ g w (do pure (.pointer (some (← newVar ty (v.toV ρ))))) r g' := by
  obtain ⟨ρ', w', h1, h2, h3⟩ := sim_new (P := P) (ty := ty) h hn hok
  refine ⟨ρ', w', ?_, h3⟩
  rw [run_bind_ok h1]
  subst h2
  rfl
theorem sim_alloc {t : TypeId} {z r : LV} {g' : LHeap} (h : Rel W keep ρ g w) (hz : zeroL P t = some z) (hn : newL z g = some (r, g')) :
    Makes P W keep ρ g w (Instr.alloc t true (.tuple #[])) r g' := by
  obtain ⟨h1, h2⟩ := run_zeroL (P := P) hz ρ g.next w
  obtain ⟨ρ', w', h3, h4⟩ := sim_newPtr (P := P) (ty := t) h hn h2
  refine ⟨ρ', w', ?_, h4⟩
  simp only [Instr.alloc]
  rw [run_bind_ok h1]
  exact h3
theorem sim_box {t : TypeId} {v r : LV} {g' : LHeap} (h : Rel W keep ρ g w) (hn : newL v g = some (r, g')) (hok : v.ok ρ g.next) :
    Makes P W keep ρ g w (Instr.box t (v.toV ρ)) r g' := sim_newPtr (P := P) (ty := t) h hn hok

/-! ### Addresses and parts -/
theorem addr_add (ρ : Ren) (a off n : Nat) : (ρ.addr a off).add n = ρ.addr a (off + n) := by
  unfold Addr.add Ren.addr
  split
  · subst_vars; rfl
  · simp [Nat.add_assoc]
theorem sim_fieldAddr {s : TypeId} {f : Nat} {x v : LV} {n : Nat} (hx : x.ok ρ n) (hf : fieldAddrT P s f x = some v) : Yields1 P ρ n w (Instr.fieldAt s (x.toV ρ) f) v := by
  unfold fieldAddrT at hf
  split at hf
  · rename_i o ho
    unfold fieldAddrL at hf
    split at hf
    · rename_i a off
      cases hf
      unfold fieldOff fieldL at ho
      split at ho
      · rename_i fd hfd
        split at hfd
        · rename_i fs hfs
          split at ho
          · cases ho
          · rename_i m hz hm
            cases ho
            refine ⟨?_, by simpa only [LV.ok] using hx⟩
            simp only [LV.toV, Instr.fieldAt]
            rw [run_bind_ok (run_underlying' hfs w)]
            simp only [hfd]
            rw [run_bind_ok (show (Instr.sureAddr (.pointer (some (ρ.addr a off)))).run P w = .ok (ρ.addr a off) w from rfl)]
            simp only [fieldPlace]
            have : ((do if (← sizeOf fd.type) = 0 then partAt (ρ.addr a off) fd.offset fd.byteOffset else pure ((ρ.addr a off).add fd.offset) : Sem Addr)).run P w = .ok (ρ.addr a (off + fd.offset)) w := by
              rw [run_bind_ok (run_sizeL hm w), if_neg (fun e => hz e), run_pure, addr_add]
            rw [run_bind_ok this]
            rfl
          · cases ho
        · cases hfd
      · cases ho
    · cases hf
  · cases hf
theorem run_part {t : TypeId} {n : Option Nat} {cs : List LV} {off : Nat} {v : LV} {m : Nat} (hn : aggN P t = some n) (hok : oks ρ m cs) (h : partL n cs off = some v) :
    Yields1 P ρ m w (part t (toVs ρ cs).toArray off) v := by
  obtain ⟨d, i, hd, hi, rfl⟩ := aggN_spec hn
  unfold Yields1
  simp only [part]
  rw [run_bind_ok (run_isAgg hd w)]
  unfold partL at h
  by_cases hag : isAggD d = true
  · simp only [hag, if_true] at h ⊢
    cases h
    rw [run_bind_ok (run_sizeOf' hi w), run_pure]
    refine ⟨?_, ?_⟩
    · simp only [LV.toV]
      congr 2
      apply Array.ext'
      simp only [Array.toList_extract, toVs_eq, List.extract_eq_take_drop, List.map_take, List.map_drop]
      congr 1
      omega
    · simp only [LV.ok]
      exact (oks_iff _ _ _).2 fun v hv => (oks_iff _ _ _).1 hok v (List.mem_of_mem_drop (List.mem_of_mem_take hv))
  · simp only [hag, Bool.false_eq_true, if_false] at h ⊢
    simp only [List.getElem?_toArray, toVs_getElem?, h, Option.map_some]
    exact ⟨rfl, (oks_iff _ _ _).1 hok v (List.mem_of_getElem? h)⟩
theorem sim_field {s : TypeId} {f : Nat} {x v : LV} {n : Nat} (hx : x.ok ρ n) (hf : fieldVT P s f x = some v) : Yields1 P ρ n w (Instr.field s (x.toV ρ) f) v := by
  unfold fieldVT at hf
  split at hf
  · rename_i fd hfd
    split at hf
    · rename_i m hm
      unfold fieldVL at hf
      split at hf
      · rename_i cs
        unfold fieldL at hfd
        split at hfd
        · rename_i fs hfs
          obtain ⟨h1, h2⟩ := run_part (P := P) (w := w) hm (by simpa only [LV.ok] using hx) hf
          refine ⟨?_, h2⟩
          simp only [LV.toV, Instr.field]
          rw [run_bind_ok (run_underlying' hfs w)]
          simp only [hfd]
          rw [run_bind_ok (show (asAgg (.agg (toVs ρ cs).toArray)).run P w = .ok (toVs ρ cs).toArray w from rfl)]
          exact h1
        · cases hfd
      · cases hf
    · cases hf
  · cases hf
theorem run_asIntOf (k : IntKind) (i : Int) (w : World) : (asIntOf (.int k i)).run P w = .ok (k, i) w := rfl
theorem ixShape_spec {t : TypeId} {len : Option Nat} {z : Nat} (h : ixShape P t = some (len, z)) :
    ∃ e, sizeL P e = some z ∧ ((∃ n, len = some n ∧ P.underlying t = some (.array n e)) ∨ (len = none ∧ P.underlying t = some (.slice e))) := by
  unfold ixShape at h
  split at h
  · rename_i n e hd
    obtain ⟨z', h1, h2⟩ := Option.map_eq_some_iff.1 h
    cases h2
    exact ⟨e, h1, .inl ⟨n, rfl, hd⟩⟩
  · rename_i e hd
    obtain ⟨z', h1, h2⟩ := Option.map_eq_some_iff.1 h
    cases h2
    exact ⟨e, h1, .inr ⟨rfl, hd⟩⟩
  · cases h
theorem sim_indexAddr {t : TypeId} {x ix v : LV} {n : Nat} (hx : x.ok ρ n) (h : ixAddrT P t x ix = some v) : Yields1 P ρ n w (Instr.indexAt t (x.toV ρ) (ix.toV ρ)) v := by
  unfold ixAddrT at h
  split at h
  · rename_i len sz hs
    obtain ⟨e, hz, hd⟩ := ixShape_spec hs
    unfold ixAddrL at h
    split at h
    · rename_i k i
      rcases hd with ⟨m, rfl, hd⟩ | ⟨rfl, hd⟩
      · cases x with
        | ptr a off =>
          simp only at h
          split at h
          · rename_i hb
            cases h
            refine ⟨?_, by simpa only [LV.ok] using hx⟩
            simp only [LV.toV, Instr.indexAt]
            rw [run_bind_ok (run_asIntOf k i w)]
            simp only
            rw [run_bind_ok (run_underlying' hd w)]
            simp only
            rw [run_bind_ok (show (Instr.sureAddr (.pointer (some (ρ.addr a off)))).run P w = .ok (ρ.addr a off) w from rfl)]
            rw [run_bind_ok (run_pure P _ w)]
            simp only
            rw [run_bind_ok (run_underlying' hd w)]
            simp only [hb, and_self, if_true]
            rw [run_bind_ok (run_sizeL hz w), run_pure, addr_add]
          · cases h
        | _ => simp at h
      · cases x with
        | slice a off l c =>
          simp only at h
          split at h
          · rename_i hb
            cases h
            refine ⟨?_, by simp only [LV.ok] at hx ⊢; exact hx.1⟩
            have hv : ∃ cp, (LV.slice a off l c).toV ρ = .slice (some (ρ.addr a off)) l cp := by cases c <;> exact ⟨_, rfl⟩
            obtain ⟨cp, hv⟩ := hv
            rw [hv]
            simp only [LV.toV, Instr.indexAt]
            rw [run_bind_ok (run_asIntOf k i w)]
            simp only
            rw [run_bind_ok (run_underlying' hd w)]
            simp only
            rw [run_bind_ok (run_pure P _ w)]
            simp only
            rw [run_bind_ok (run_underlying' hd w)]
            simp only [hb, and_self, if_true]
            rw [run_bind_ok (run_sizeL hz w), run_pure, addr_add]
          · cases h
        | _ => simp at h
    · cases h
  · cases h
theorem sim_index {t : TypeId} {x ix v : LV} {n : Nat} (hx : x.ok ρ n) (h : indexT P t x ix = some v) : Yields1 P ρ n w (Instr.index t (x.toV ρ) (ix.toV ρ)) v := by
  unfold indexT at h
  split at h
  · rename_i hd
    unfold ixStrL at h
    split at h
    · rename_i k i s
      split at h
      · rename_i hb
        obtain ⟨b, h1, h2⟩ := Option.map_eq_some_iff.1 h
        subst h2
        refine ⟨?_, by simp [LV.ok]⟩
        simp only [LV.toV, Instr.index]
        rw [run_bind_ok (run_asIntOf k i w)]
        simp only
        rw [run_bind_ok (run_underlying' hd w)]
        have hlt : i.toNat < s.length := (List.getElem?_eq_some_iff.1 h1).1
        have : (⟨s.toArray⟩ : ByteArray)[i.toNat]? = some b := by
          have hb' : (⟨s.toArray⟩ : ByteArray)[i.toNat]? = (s.toArray)[i.toNat]? := rfl
          rw [hb']; simpa using h1
        simp only [hb, if_true, this]
        rfl
      · cases h
    · cases h
  · rename_i len e hd
    split at h
    · rename_i m sz hm hz
      unfold ixAggL at h
      split at h
      · rename_i k i cs
        split at h
        · rename_i hb
          obtain ⟨h1, h2⟩ := run_part (P := P) (w := w) hm (by simpa only [LV.ok] using hx) h
          refine ⟨?_, h2⟩
          simp only [LV.toV, Instr.index]
          rw [run_bind_ok (run_asIntOf k i w)]
          simp only
          rw [run_bind_ok (run_underlying' hd w)]
          simp only [hb, and_self, if_true]
          rw [run_bind_ok (run_sizeL hz w)]
          exact h1
        · cases h
      · cases h
    · cases h
  · cases h

end Go.Lm
