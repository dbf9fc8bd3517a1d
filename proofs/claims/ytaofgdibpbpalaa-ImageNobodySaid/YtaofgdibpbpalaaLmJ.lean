/-
  The logical machine, part J: what is made; conversions; iterators.
-/
import Derived.Test.YtaofgdibpbpalaaLmI
namespace Go.Lm

variable {P : Program} {W : World} {keep : Nat → Prop} {ρ : Ren} {g : LHeap} {w : World}

/-! ### Structs, arrays and slices written out -/
theorem foldl_set {v : List Value} : ∀ (off k : Nat) (cells : Array Value), off + k + v.length ≤ cells.size →
    ((v.zipIdx k).foldl (fun cs (c, j) => cs.setIfInBounds (off + j) c) cells).toList = cells.toList.take (off + k) ++ v ++ cells.toList.drop (off + k + v.length) := by
  induction v with
  | nil => intro off k cells _; simp
  | cons x v ih =>
    intro off k cells h
    simp only [List.length_cons] at h
    rw [List.zipIdx_cons, List.foldl_cons, ih off (k + 1) _ (by simp; omega)]
    simp only [Array.toList_setIfInBounds, List.length_cons]
    have h1 : (cells.toList.set (off + k) x).take (off + (k + 1)) = cells.toList.take (off + k) ++ [x] := by
      rw [show off + (k + 1) = (off + k) + 1 by omega, List.take_succ_eq_append_getElem (by simp; omega)]
      congr 1
      · rw [List.take_set]; apply List.set_eq_of_length_le; simp; omega
      · simp
    have h2 : (cells.toList.set (off + k) x).drop (off + (k + 1) + v.length) = cells.toList.drop (off + k + (v.length + 1)) := by
      rw [List.drop_set_of_lt (by omega)]
      congr 1
      omega
    rw [h1, h2]
    simp

theorem sim_fill {place : Nat → Option (Nat × Nat)} : ∀ (parts : List (Nat × LV)) (cells r : List LV), fillL place cells parts = some r →
    Instr.fill place (toVs ρ cells).toArray (parts.map fun p => (p.1, p.2.toV ρ)) = some (toVs ρ r).toArray := by
  intro parts
  induction parts with
  | nil => intro cells r h; simp [fillL] at h; subst h; rfl
  | cons p parts ih =>
    intro cells r h
    obtain ⟨i, v⟩ := p
    simp only [fillL] at h
    simp only [List.map_cons, Instr.fill]
    split at h
    · cases h
    · rename_i off size hp
      rw [hp]
      split at h
      · cases h
      · rename_i hc
        have hc1 : v.cells.length = size := Classical.byContradiction fun e => hc (.inl e)
        have hc2 : off + size ≤ cells.length := by
          have : ¬ off + size > cells.length := fun e => hc (.inr e)
          omega
        have hsz : (v.toV ρ).cells.size = size := by rw [LV.cells_toV]; simp [toVs_length, hc1]
        simp only [hsz, ne_eq, not_true_eq_false, decide_false, Bool.false_or]
        rw [if_neg (by simp [toVs_length]; omega)]
        rw [← ih _ _ h]
        congr 1
        apply Array.ext'
        rw [LV.cells_toV]
        have := foldl_set (v := toVs ρ v.cells) off 0 (toVs ρ cells).toArray (by simp [toVs_length]; omega)
        have e : (toVs ρ v.cells).toArray.zipIdx.foldl (fun cs x => cs.setIfInBounds (off + x.2) x.1) (toVs ρ cells).toArray = ((toVs ρ v.cells).zipIdx 0).foldl (fun cs x => cs.setIfInBounds (off + x.2) x.1) (toVs ρ cells).toArray := by
          rw [← Array.foldl_toList]; simp
        have e2 : ((toVs ρ v.cells).toArray.zipIdx.foldl (fun cs x => match x with | (c, j) => cs.setIfInBounds (off + j) c) (toVs ρ cells).toArray) = (toVs ρ v.cells).toArray.zipIdx.foldl (fun cs x => cs.setIfInBounds (off + x.2) x.1) (toVs ρ cells).toArray := rfl
        rw [e2, e]
        refine this.trans ?_
        simp only [Nat.add_zero, toVs_length, splice, toVs_append]
        simp [toVs_eq, List.map_take, List.map_drop]
theorem fillL_ok {place : Nat → Option (Nat × Nat)} {n : Nat} : ∀ (parts : List (Nat × LV)) (cells r : List LV), fillL place cells parts = some r → oks ρ n cells → (∀ p ∈ parts, p.2.ok ρ n) → oks ρ n r := by
  intro parts
  induction parts with
  | nil => intro cells r h hc _; simp [fillL] at h; subst h; exact hc
  | cons p parts ih =>
    intro cells r h hc hp
    obtain ⟨i, v⟩ := p
    simp only [fillL] at h
    split at h
    · cases h
    · split at h
      · cases h
      · refine ih _ _ h ?_ (fun q hq => hp q (by simp [hq]))
        refine (oks_iff _ _ _).2 fun u hu => (splice_mem hu).elim ((oks_iff _ _ _).1 hc u) fun hu => ?_
        exact (oks_iff _ _ _).1 (LV.cells_ok (hp (i, v) (by simp))) u hu

theorem run_structPlaces : ∀ (fs : List Field) (r : List (Nat × Nat)) (w : World), structPlaces P fs = some r → (fs.mapM fun f => do pure (f.offset, ← sizeOf f.type) : Sem (List (Nat × Nat))).run P w = .ok r w := by
  intro fs
  induction fs with
  | nil => intro r w h; simp [structPlaces] at h; subst h; rfl
  | cons f fs ih =>
    intro r w h
    simp only [structPlaces, List.mapM_cons, Option.pure_def, Option.bind_eq_bind, Option.bind_eq_some_iff, Option.map_eq_some_iff] at h
    obtain ⟨p, ⟨z, hz, rfl⟩, ps, hps, h⟩ := h
    cases h
    rw [List.mapM_cons]
    have h1 : (do pure (f.offset, ← sizeOf f.type) : Sem (Nat × Nat)).run P w = .ok (f.offset, z) w := by
      rw [run_bind_ok (run_sizeL hz w)]; rfl
    rw [run_bind_ok h1]
    rw [run_bind_ok (ih ps w (by simpa [structPlaces] using hps))]
    rfl

theorem sim_build {t : TypeId} {parts : List (Nat × LV)} {v : LV} {n : Nat} (hp : ∀ p ∈ parts, p.2.ok ρ n) (hb : buildL P t parts = some v) :
    Yields1 P ρ n w (Instr.build t (parts.map fun p => (p.1, p.2.toV ρ)).toArray) v := by
  unfold buildL at hb
  split at hb
  · rename_i z fs hz hd
    obtain ⟨z1, z2⟩ := run_zeroL (P := P) hz ρ n w
    split at hb
    · rename_i places hpl
      obtain ⟨r, hr, rfl⟩ := Option.map_eq_some_iff.1 hb
      refine ⟨?_, by simp only [LV.ok]; exact fillL_ok _ _ _ hr (LV.cells_ok z2) hp⟩
      simp only [Instr.build]
      rw [run_bind_ok z1]
      rw [run_bind_ok (run_underlying' hd w)]
      simp only
      have hm : (fs.mapM fun f => do pure (f.offset, ← sizeOf f.type) : Sem (Array (Nat × Nat))).run P w = .ok places.toArray w := by
        rw [Array.mapM_eq_mapM_toList]
        have := run_structPlaces fs.toList places w hpl
        rw [map_eq_pure_bind, run_bind_ok this]
        rfl
      rw [run_bind_ok hm]
      have hf := sim_fill (ρ := ρ) _ _ _ hr
      rw [LV.cells_toV]
      have : (places.toArray[·]?) = (places[·]? : Nat → Option (Nat × Nat)) := by funext i; simp
      simp only [this, hf]
      rfl
    · cases hb
  · rename_i z m e hz hd
    obtain ⟨z1, z2⟩ := run_zeroL (P := P) hz ρ n w
    split at hb
    · rename_i sz hsz
      obtain ⟨r, hr, rfl⟩ := Option.map_eq_some_iff.1 hb
      refine ⟨?_, by simp only [LV.ok]; exact fillL_ok _ _ _ hr (LV.cells_ok z2) hp⟩
      simp only [Instr.build]
      rw [run_bind_ok z1]
      rw [run_bind_ok (run_underlying' hd w)]
      simp only
      rw [run_bind_ok (run_sizeL hsz w)]
      have hf := sim_fill (ρ := ρ) _ _ _ hr
      rw [LV.cells_toV]
      simp only [hf]
      rfl
    · cases hb
  · cases hb

theorem range_zero {z : LV} (n k : Nat) (hk : z.cells.length = k) : ((Array.range (n * k)).map ((z.toV ρ).cells[· % (z.toV ρ).cells.size]!)) = (toVs ρ (List.replicate n z.cells).flatten).toArray := by
  rw [← zeroCells_eq]
  unfold Builtin.zeroCells
  have : (z.toV ρ).cells.size = k := by rw [LV.cells_toV]; simp [toVs_length, hk]
  rw [this]

theorem sim_buildSlice {t : TypeId} {len : Nat} {parts : List (Nat × LV)} {v : LV} {g' : LHeap} (h : Rel W keep ρ g w) (hp : ∀ p ∈ parts, p.2.ok ρ g.next) (hb : buildSliceL P t len parts g = some (v, g')) :
    Makes P W keep ρ g w (Instr.buildSlice t len (parts.map fun p => (p.1, p.2.toV ρ)).toArray) v g' := by
  unfold buildSliceL at hb
  split at hb
  · rename_i e hel
    split at hb
    · rename_i n z hn hz
      obtain ⟨z1, z2⟩ := run_zeroL (P := P) hz ρ g.next w
      split at hb
      · cases hb
      · rename_i hc
        have hc1 : len * n ≤ 2 ^ 24 := by
          have : ¬ len * n > 2 ^ 24 := fun e => hc (.inl e)
          omega
        have hc2 : z.cells.length = n := Classical.byContradiction fun e => hc (.inr e)
        split at hb
        · rename_i cells hf
          split at hb
          · rename_i hcell
            cases hb
            have hrep : oks ρ g.next (List.replicate len z.cells).flatten := (oks_iff _ _ _).2 fun v hv => by
              obtain ⟨l, hl, hv⟩ := List.mem_flatten.1 hv
              rw [List.mem_replicate] at hl
              rw [hl.2] at hv
              exact (oks_iff _ _ _).1 (LV.cells_ok z2) v hv
            have hok := fillL_ok _ _ _ hf hrep hp
            refine ⟨ρ.put g.next w.heap.size 0 0, _, ?_, Ren.put_ext _ _ _ _ _, h.newCells (ty := e) hok (fun v hv => List.all_eq_true.1 hcell v hv), ?_, by simp⟩
            · simp only [Instr.buildSlice]
              rw [run_bind_ok (run_sliceElem hel w)]
              simp only
              rw [run_bind_ok (run_sizeL hn w), if_neg (by omega)]
              have hff := sim_fill (ρ := ρ) _ _ _ hf
              by_cases h0 : len * n = 0
              · rw [if_pos h0, run_bind_ok (run_pure P _ w)]
                have hcells : ((Array.range (len * n)).map ((#[] : Array Value)[· % (#[] : Array Value).size]!)) = (toVs ρ (List.replicate len z.cells).flatten).toArray := by
                  rw [← range_zero len n hc2, h0]; simp
                simp only [hcells, hff]
                rw [run_bind_ok (run_newRow _ _ _)]
                simp only [run_pure, LV.toV, Ren.put_addr]
              · rw [if_neg h0, run_bind_ok z1, run_bind_ok (run_pure P _ w)]
                simp only [range_zero len n hc2, hff]
                rw [run_bind_ok (run_newRow _ _ _)]
                simp only [run_pure, LV.toV, Ren.put_addr]
            · simp only [LV.ok, LHeap.next_alloc]; omega
          · cases hb
        · cases hb
    · cases hb
  · cases hb

theorem wrap64_of {n : Int} (h0 : 0 ≤ n) (h : n < 2 ^ 62) : IntKind.i64.wrap n = n := by
  unfold IntKind.wrap IntKind.bits IntKind.signed
  have h1 : n % (2 ^ 64 : Int) = n := Int.emod_eq_of_lt h0 (by omega)
  simp only [h1]
  have h2 : ¬ n ≥ (2 ^ (64 - 1) : Int) := by
    have : (2 ^ (64 - 1) : Int) = 2 ^ 63 := rfl
    omega
  simp only [decide_eq_false h2, Bool.and_false, Bool.false_eq_true, if_false]

theorem sim_makeSlice {t : TypeId} {l c v : LV} {g' : LHeap} (h : Rel W keep ρ g w) (hb : makeSliceL P t l c g = some (v, g')) :
    Makes P W keep ρ g w (Instr.makeSlice t (l.toV ρ) (c.toV ρ)) v g' := by
  unfold makeSliceL at hb
  split at hb
  · rename_i e kl l kc c hel
    split at hb
    · rename_i i hi
      split at hb
      · rename_i zv hz
        split at hb
        · rename_i z hzl
          split at hb
          · rename_i hc
            obtain ⟨c0, c1, c2, c3, c4, c5⟩ := hc
            cases hb
            obtain ⟨z1, z2⟩ := ofV_ok ρ g.next _ _ _ hzl
            have hok : oks ρ g.next (List.replicate c.toNat z.cells).flatten := (oks_iff _ _ _).2 fun v hv => by
              obtain ⟨l, hl, hv⟩ := List.mem_flatten.1 hv
              rw [List.mem_replicate] at hl
              rw [hl.2] at hv
              exact (oks_iff _ _ _).1 (LV.cells_ok z2) v hv
            have hcell : ∀ v ∈ (List.replicate c.toNat z.cells).flatten, v.cell = true := fun v hv => by
              obtain ⟨l, hl, hv⟩ := List.mem_flatten.1 hv
              rw [List.mem_replicate] at hl
              rw [hl.2] at hv
              exact List.all_eq_true.1 c5 v hv
            refine ⟨ρ.put g.next w.heap.size 0 0, _, ?_, Ren.put_ext _ _ _ _ _, h.newCells (ty := e) hok hcell, ?_, by simp⟩
            · simp only [Instr.makeSlice, LV.toV]
              rw [run_bind_ok (run_sliceElem hel w)]
              simp only
              rw [run_bind_ok (show (asInt (.int kl l)).run P w = .ok l w from rfl), run_bind_ok (show (asInt (.int kc c)).run P w = .ok c w from rfl), run_bind_ok (run_typeInfo hi w)]
              simp only [wrap64_of (n := l) (by omega) (by omega), wrap64_of (n := c) (by omega) (by omega)]
              rw [if_neg]
              · rw [run_bind_ok (run_askRoom _ _), run_bind_ok (run_sizeOf' hi w)]
                by_cases h0 : c.toNat * i.size = 0
                · rw [if_pos h0, run_bind_ok (run_pure P _ w)]
                  have hcells : ((Array.range (c.toNat * i.size)).map ((#[] : Array Value)[· % (#[] : Array Value).size]!)) = (toVs ρ (List.replicate c.toNat z.cells).flatten).toArray := by
                    rw [← range_zero c.toNat i.size c4, h0]; simp
                  rw [hcells, run_bind_ok (run_newRow _ _ _)]
                  simp only [run_pure, Ren.put_addr]
                · rw [if_neg h0, run_bind_ok (run_zeroValue' hi hz w), run_bind_ok (run_pure P _ w), ← z1, range_zero c.toNat i.size c4, run_bind_ok (run_newRow _ _ _)]
                  simp only [run_pure, Ren.put_addr]
              · have h1 : ¬ (i.bytes * c > 2 ^ 48) := by omega
                simp only [gt_iff_lt, Bool.or_eq_true, decide_eq_true_eq, not_or]
                refine ⟨⟨⟨by omega, ?_⟩, by omega⟩, by omega⟩
                simpa using h1
            · simp only [LV.ok, LHeap.next_alloc]; omega
          · cases hb
        · cases hb
      · cases hb
    · cases hb
  · cases hb

end Go.Lm
