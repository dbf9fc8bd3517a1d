/-
  The logical machine: a deep reading of a program over numbered objects, proved sound once; parts mJ to mQ.
-/
import Derived.Test.YtfbagndfifibiaaLm1x
import Derived.Lib.Bytealg
import Derived.OrdersHeld
import Derived.OrdersIn
import Derived.Scope
set_option linter.all false
/-
  The logical machine, part J: what is made; conversions; iterators.
-/
namespace Go.Lm

variable {P : Program} {W : World} {keep : Nat → Prop} {ρ : Ren} {g : LHeap} {w : World}

/-! ### Structs, arrays and slices written out -/
theorem foldl_set {v : List Value} : ∀ (off k : Nat) (cells : Array Value), off + k + v.length ≤ cells.size →
    ((v.zipIdx k).foldl (fun cs (c, j) => cs.setIfInBounds (off + j) c) cells).toList = cells.toList.take (off + k) ++ v ++ cells.toList.drop (off + k + v.length) := by
  induction v with
  | nil => intro off k cells _; simp
  | cons x v ih =>
    intro off k cells h
    simp only [List.length_cons] at h
    rw [List.zipIdx_cons, List.foldl_cons, ih off (k + 1) _ (by simp; omega)]
    simp only [Array.toList_setIfInBounds, List.length_cons]
    have h1 : (cells.toList.set (off + k) x).take (off + (k + 1)) = cells.toList.take (off + k) ++ [x] := by
      rw [show off + (k + 1) = (off + k) + 1 by omega, List.take_succ_eq_append_getElem (by simp; omega)]
      congr 1
      · rw [List.take_set]; apply List.set_eq_of_length_le; simp; omega
      · simp
    have h2 : (cells.toList.set (off + k) x).drop (off + (k + 1) + v.length) = cells.toList.drop (off + k + (v.length + 1)) := by
      rw [List.drop_set_of_lt (by omega)]
      congr 1
      omega
    rw [h1, h2]
    simp

theorem sim_fill {place : Nat → Option (Nat × Nat)} : ∀ (parts : List (Nat × LV)) (cells r : List LV), fillL place cells parts = some r →
    Instr.fill place (toVs ρ cells).toArray (parts.map fun p => (p.1, p.2.toV ρ)) = some (toVs ρ r).toArray := by
  intro parts
  induction parts with
  | nil => intro cells r h; simp [fillL] at h; subst h; rfl
  | cons p parts ih =>
    intro cells r h
    obtain ⟨i, v⟩ := p
    simp only [fillL] at h
    simp only [List.map_cons, Instr.fill]
    split at h
    · cases h
    · rename_i off size hp
      rw [hp]
      split at h
      · cases h
      · rename_i hc
        have hc1 : v.cells.length = size := Classical.byContradiction fun e => hc (.inl e)
        have hc2 : off + size ≤ cells.length := by
          have : ¬ off + size > cells.length := fun e => hc (.inr e)
          omega
        have hsz : (v.toV ρ).cells.size = size := by rw [LV.cells_toV]; simp [toVs_length, hc1]
        simp only [hsz, ne_eq, not_true_eq_false, decide_false, Bool.false_or]
        rw [if_neg (by simp [toVs_length]; omega)]
        rw [← ih _ _ h]
        congr 1
        apply Array.ext'
        rw [LV.cells_toV]
        have := foldl_set (v := toVs ρ v.cells) off 0 (toVs ρ cells).toArray (by simp [toVs_length]; omega)
        have e : (toVs ρ v.cells).toArray.zipIdx.foldl (fun cs x => cs.setIfInBounds (off + x.2) x.1) (toVs ρ cells).toArray = ((toVs ρ v.cells).zipIdx 0).foldl (fun cs x => cs.setIfInBounds (off + x.2) x.1) (toVs ρ cells).toArray := by
          rw [← Array.foldl_toList]; simp
        have e2 : ((toVs ρ v.cells).toArray.zipIdx.foldl (fun cs x => match x with | (c, j) => cs.setIfInBounds (off + j) c) (toVs ρ cells).toArray) = (toVs ρ v.cells).toArray.zipIdx.foldl (fun cs x => cs.setIfInBounds (off + x.2) x.1) (toVs ρ cells).toArray := rfl
        rw [e2, e]
        refine this.trans ?_
        simp only [Nat.add_zero, toVs_length, splice, toVs_append]
        simp [toVs_eq, List.map_take, List.map_drop]
theorem fillL_ok {place : Nat → Option (Nat × Nat)} {n : Nat} : ∀ (parts : List (Nat × LV)) (cells r : List LV), fillL place cells parts = some r → oks ρ n cells → (∀ p ∈ parts, p.2.ok ρ n) → oks ρ n r := by
  intro parts
  induction parts with
  | nil => intro cells r h hc _; simp [fillL] at h; subst h; exact hc
  | cons p parts ih =>
    intro cells r h hc hp
    obtain ⟨i, v⟩ := p
    simp only [fillL] at h
    split at h
    · cases h
    · split at h
      · cases h
      · refine ih _ _ h ?_ (fun q hq => hp q (by simp [hq]))
        refine (oks_iff _ _ _).2 fun u hu => (splice_mem hu).elim ((oks_iff _ _ _).1 hc u) fun hu => ?_
        exact (oks_iff _ _ _).1 (LV.cells_ok (hp (i, v) (by simp))) u hu

theorem run_structPlaces : ∀ (fs : List Field) (r : List (Nat × Nat)) (w : World), structPlaces P fs = some r → (fs.mapM fun f => do pure (f.offset, ← sizeOf f.type) : Sem (List (Nat × Nat))).run P w = .ok r w := by
  intro fs
  induction fs with
  | nil => intro r w h; simp [structPlaces] at h; subst h; rfl
  | cons f fs ih =>
    intro r w h
    simp only [structPlaces, List.mapM_cons, Option.pure_def, Option.bind_eq_bind, Option.bind_eq_some_iff, Option.map_eq_some_iff] at h
    obtain ⟨p, ⟨z, hz, rfl⟩, ps, hps, h⟩ := h
    cases h
    rw [List.mapM_cons]
    have h1 : (do pure (f.offset, ← sizeOf f.type) : Sem (Nat × Nat)).run P w = .ok (f.offset, z) w := by
      rw [run_bind_ok (run_sizeL hz w)]; rfl
    rw [run_bind_ok h1]
    rw [run_bind_ok (ih ps w (by simpa [structPlaces] using hps))]
    rfl

theorem sim_build {t : TypeId} {parts : List (Nat × LV)} {v : LV} {n : Nat} (hp : ∀ p ∈ parts, p.2.ok ρ n) (hb : buildL P t parts = some v) :
    Yields1 P ρ n w (Instr.build t (parts.map fun p => (p.1, p.2.toV ρ)).toArray) v := by
  unfold buildL at hb
  split at hb
  · rename_i z fs hz hd
    obtain ⟨z1, z2⟩ := run_zeroL (P := P) hz ρ n w
    split at hb
    · rename_i places hpl
      obtain ⟨r, hr, rfl⟩ := Option.map_eq_some_iff.1 hb
      refine ⟨?_, by simp only [LV.ok]; exact fillL_ok _ _ _ hr (LV.cells_ok z2) hp⟩
      simp only [Instr.build]
      rw [run_bind_ok z1]
      rw [run_bind_ok (run_underlying' hd w)]
      simp only
      have hm : (fs.mapM fun f => do pure (f.offset, ← sizeOf f.type) : Sem (Array (Nat × Nat))).run P w = .ok places.toArray w := by
        rw [Array.mapM_eq_mapM_toList]
        have := run_structPlaces fs.toList places w hpl
        rw [map_eq_pure_bind, run_bind_ok this]
        rfl
      rw [run_bind_ok hm]
      have hf := sim_fill (ρ := ρ) _ _ _ hr
      rw [LV.cells_toV]
      have : (places.toArray[·]?) = (places[·]? : Nat → Option (Nat × Nat)) := by funext i; simp
      simp only [this, hf]
      rfl
    · cases hb
  · rename_i z m e hz hd
    obtain ⟨z1, z2⟩ := run_zeroL (P := P) hz ρ n w
    split at hb
    · rename_i sz hsz
      obtain ⟨r, hr, rfl⟩ := Option.map_eq_some_iff.1 hb
      refine ⟨?_, by simp only [LV.ok]; exact fillL_ok _ _ _ hr (LV.cells_ok z2) hp⟩
      simp only [Instr.build]
      rw [run_bind_ok z1]
      rw [run_bind_ok (run_underlying' hd w)]
      simp only
      rw [run_bind_ok (run_sizeL hsz w)]
      have hf := sim_fill (ρ := ρ) _ _ _ hr
      rw [LV.cells_toV]
      simp only [hf]
      rfl
    · cases hb
  · cases hb

theorem range_zero {z : LV} (n k : Nat) (hk : z.cells.length = k) : ((Array.range (n * k)).map ((z.toV ρ).cells[· % (z.toV ρ).cells.size]!)) = (toVs ρ (List.replicate n z.cells).flatten).toArray := by
  rw [← zeroCells_eq]
  unfold Builtin.zeroCells
  have : (z.toV ρ).cells.size = k := by rw [LV.cells_toV]; simp [toVs_length, hk]
  rw [this]

theorem sim_buildSlice {t : TypeId} {len : Nat} {parts : List (Nat × LV)} {v : LV} {g' : LHeap} (h : Rel W keep ρ g w) (hp : ∀ p ∈ parts, p.2.ok ρ g.next) (hb : buildSliceL P t len parts g = some (v, g')) :
    Makes P W keep ρ g w (Instr.buildSlice t len (parts.map fun p => (p.1, p.2.toV ρ)).toArray) v g' := by
  unfold buildSliceL at hb
  split at hb
  · rename_i e hel
    split at hb
    · rename_i n z hn hz
      obtain ⟨z1, z2⟩ := run_zeroL (P := P) hz ρ g.next w
      split at hb
      · cases hb
      · rename_i hc
        have hc1 : len * n ≤ 2 ^ 24 := by
          have : ¬ len * n > 2 ^ 24 := fun e => hc (.inl e)
          omega
        have hc2 : z.cells.length = n := Classical.byContradiction fun e => hc (.inr e)
        split at hb
        · rename_i cells hf
          split at hb
          · rename_i hcell
            cases hb
            have hrep : oks ρ g.next (List.replicate len z.cells).flatten := (oks_iff _ _ _).2 fun v hv => by
              obtain ⟨l, hl, hv⟩ := List.mem_flatten.1 hv
              rw [List.mem_replicate] at hl
              rw [hl.2] at hv
              exact (oks_iff _ _ _).1 (LV.cells_ok z2) v hv
            have hok := fillL_ok _ _ _ hf hrep hp
            refine ⟨ρ.put g.next w.heap.size 0 0, _, ?_, Ren.put_ext _ _ _ _ _, h.newCells (ty := e) hok (fun v hv => List.all_eq_true.1 hcell v hv), ?_, by simp⟩
            · simp only [Instr.buildSlice]
              rw [run_bind_ok (run_sliceElem hel w)]
              simp only
              rw [run_bind_ok (run_sizeL hn w), if_neg (by omega)]
              have hff := sim_fill (ρ := ρ) _ _ _ hf
              by_cases h0 : len * n = 0
              · rw [if_pos h0, run_bind_ok (run_pure P _ w)]
                have hcells : ((Array.range (len * n)).map ((#[] : Array Value)[· % (#[] : Array Value).size]!)) = (toVs ρ (List.replicate len z.cells).flatten).toArray := by
                  rw [← range_zero len n hc2, h0]; simp
                simp only [hcells, hff]
                rw [run_bind_ok (run_newRow _ _ _)]
                simp only [run_pure, LV.toV, Ren.put_addr]
              · rw [if_neg h0, run_bind_ok z1, run_bind_ok (run_pure P _ w)]
                simp only [range_zero len n hc2, hff]
                rw [run_bind_ok (run_newRow _ _ _)]
                simp only [run_pure, LV.toV, Ren.put_addr]
            · simp only [LV.ok, LHeap.next_alloc]; omega
          · cases hb
        · cases hb
    · cases hb
  · cases hb

theorem wrap64_of {n : Int} (h0 : 0 ≤ n) (h : n < 2 ^ 62) : IntKind.i64.wrap n = n := by
  unfold IntKind.wrap IntKind.bits IntKind.signed
  have h1 : n % (2 ^ 64 : Int) = n := Int.emod_eq_of_lt h0 (by omega)
  simp only [h1]
  have h2 : ¬ n ≥ (2 ^ (64 - 1) : Int) := by
    have : (2 ^ (64 - 1) : Int) = 2 ^ 63 := rfl
    omega
  simp only [decide_eq_false h2, Bool.and_false, Bool.false_eq_true, if_false]

theorem sim_makeSlice {t : TypeId} {l c v : LV} {g' : LHeap} (h : Rel W keep ρ g w) (hb : makeSliceL P t l c g = some (v, g')) :
    Makes P W keep ρ g w (Instr.makeSlice t (l.toV ρ) (c.toV ρ)) v g' := by
  unfold makeSliceL at hb
  split at hb
  · rename_i e kl l kc c hel
    split at hb
    · rename_i i hi
      split at hb
      · rename_i zv hz
        split at hb
        · rename_i z hzl
          split at hb
          · rename_i hc
            obtain ⟨c0, c1, c2, c3, c4, c5⟩ := hc
            cases hb
            obtain ⟨z1, z2⟩ := ofV_ok ρ g.next _ _ _ hzl
            have hok : oks ρ g.next (List.replicate c.toNat z.cells).flatten := (oks_iff _ _ _).2 fun v hv => by
              obtain ⟨l, hl, hv⟩ := List.mem_flatten.1 hv
              rw [List.mem_replicate] at hl
              rw [hl.2] at hv
              exact (oks_iff _ _ _).1 (LV.cells_ok z2) v hv
            have hcell : ∀ v ∈ (List.replicate c.toNat z.cells).flatten, v.cell = true := fun v hv => by
              obtain ⟨l, hl, hv⟩ := List.mem_flatten.1 hv
              rw [List.mem_replicate] at hl
              rw [hl.2] at hv
              exact List.all_eq_true.1 c5 v hv
            refine ⟨ρ.put g.next w.heap.size 0 0, _, ?_, Ren.put_ext _ _ _ _ _, h.newCells (ty := e) hok hcell, ?_, by simp⟩
            · simp only [Instr.makeSlice, LV.toV]
              rw [run_bind_ok (run_sliceElem hel w)]
              simp only
              rw [run_bind_ok (show (asInt (.int kl l)).run P w = .ok l w from rfl), run_bind_ok (show (asInt (.int kc c)).run P w = .ok c w from rfl), run_bind_ok (run_typeInfo hi w)]
              simp only [wrap64_of (n := l) (by omega) (by omega), wrap64_of (n := c) (by omega) (by omega)]
              rw [if_neg]
              · rw [run_bind_ok (run_askRoom _ _), run_bind_ok (run_sizeOf' hi w)]
                by_cases h0 : c.toNat * i.size = 0
                · rw [if_pos h0, run_bind_ok (run_pure P _ w)]
                  have hcells : ((Array.range (c.toNat * i.size)).map ((#[] : Array Value)[· % (#[] : Array Value).size]!)) = (toVs ρ (List.replicate c.toNat z.cells).flatten).toArray := by
                    rw [← range_zero c.toNat i.size c4, h0]; simp
                  rw [hcells, run_bind_ok (run_newRow _ _ _)]
                  simp only [run_pure, Ren.put_addr]
                · rw [if_neg h0, run_bind_ok (run_zeroValue' hi hz w), run_bind_ok (run_pure P _ w), ← z1, range_zero c.toNat i.size c4, run_bind_ok (run_newRow _ _ _)]
                  simp only [run_pure, Ren.put_addr]
              · have h1 : ¬ (i.bytes * c > 2 ^ 48) := by omega
                simp only [gt_iff_lt, Bool.or_eq_true, decide_eq_true_eq, not_or]
                refine ⟨⟨⟨by omega, ?_⟩, by omega⟩, by omega⟩
                simpa using h1
            · simp only [LV.ok, LHeap.next_alloc]; omega
          · cases hb
        · cases hb
      · cases hb
    · cases hb
  · cases hb

end Go.Lm

/-
  The logical machine, part K: conversions, interface values, iterators.
-/
namespace Go.Lm

variable {P : Program} {W : World} {keep : Nat → Prop} {ρ : Ren} {g : LHeap} {w : World}

/-! ### Conversions -/
theorem run_bytes : ∀ (l : List LV) (s : ByteArray) (r : List UInt8) (w : World),
    l.mapM (fun (c : LV) => match c with | .int .u8 n => some (UInt8.ofNat n.toNat) | _ => none) = some r →
    ∃ s', (forIn (m := Sem) (toVs ρ l) s fun c r => match c with
        | .int .u8 n => pure (ForInStep.yield (r.push (UInt8.ofNat n.toNat)))
        | _ => (do stuck "bytesToString: byte expected"; pure (ForInStep.yield r))).run P w = .ok s' w ∧ s'.data.toList = s.data.toList ++ r := by
  intro l
  induction l with
  | nil => intro s r w h; simp at h; subst h; exact ⟨s, rfl, by simp⟩
  | cons x l ih =>
    intro s r w h
    simp only [List.mapM_cons, Option.pure_def, Option.bind_eq_bind, Option.bind_eq_some_iff] at h
    obtain ⟨b, hb, bs, hbs, h⟩ := h
    cases h
    split at hb
    · rename_i n
      cases hb
      obtain ⟨s', h1, h2⟩ := ih (s.push (UInt8.ofNat n.toNat)) bs w hbs
      refine ⟨s', ?_, ?_⟩
      · simp only [toVs, LV.toV, List.forIn_cons]
        rw [run_bind_ok (a := ForInStep.yield (s.push (UInt8.ofNat n.toNat))) (w' := w) rfl]
        exact h1
      · rw [h2]
        simp [ByteArray.push]
    · cases hb

theorem freeze_push (w : World) (C : Array Value) (e : TypeId) (k : Nat) :
    ({ w with heap := w.heap.push (.cells C e) } : World).freeze { block := w.heap.size, off := k } 1 = { w with heap := w.heap.push (.cells C e (k, k + 1)) } := by
  unfold World.freeze
  simp only [Nat.one_ne_zero, if_false]
  congr 1
  apply Array.ext
  · simp
  · intro j h1 h2
    simp only [Array.getElem_modify, Array.getElem_push]
    by_cases hj : w.heap.size = j
    · subst hj
      simp
    · have : j < w.heap.size := by simp at h2; omega
      simp [hj, this]

theorem sim_convY {s d : TypeId} {x v : LV} {g' : LHeap} (h : Rel W keep ρ g w) (hns : ∀ e, P.underlying d ≠ some (.slice e)) (hc : convL P s d x g = some (v, g')) : Yields1 P ρ g.next w (convert s d (x.toV ρ)) v ∧ g' = g := by
  unfold convL at hc
  split at hc
  · rename_i sd k hs hd
    split at hc
    · rename_i kk n
      cases hc
      refine ⟨⟨?_, by simp [LV.ok]⟩, rfl⟩
      simp only [convert]
      rw [run_bind_ok (run_underlying' hs w), run_bind_ok (run_underlying' hd w)]
      cases sd <;> rfl
    · cases hc
  · rename_i e hs hd
    exact absurd hd (hns e)
  · rename_i e hs hd
    split at hc
    · rename_i he
      split at hc
      · cases hc
        refine ⟨⟨?_, by simp [LV.ok]⟩, rfl⟩
        simp only [convert]
        rw [run_bind_ok (run_underlying' hs w), run_bind_ok (run_underlying' hd w)]
        simp only [LV.toV]
        rw [run_bind_ok (run_underlying' he w)]
        rfl
      · cases hc
        refine ⟨⟨?_, by simp [LV.ok]⟩, rfl⟩
        simp only [convert]
        rw [run_bind_ok (run_underlying' hs w), run_bind_ok (run_underlying' hd w)]
        simp only [LV.toV]
        rw [run_bind_ok (run_underlying' he w)]
        rfl
      · rename_i a off len cp
        split at hc
        · rename_i vs own hg
          split at hc
          · rename_i hle
            obtain ⟨bs, hbs, heq⟩ := Option.map_eq_some_iff.1 hc
            cases heq
            obtain ⟨cap, hv⟩ := slice_toV ρ a off len cp
            refine ⟨⟨?_, by simp [LV.ok]⟩, rfl⟩
            rw [hv]
            simp only [convert]
            rw [run_bind_ok (run_underlying' hs w), run_bind_ok (run_underlying' hd w)]
            simp only
            rw [run_bind_ok (run_underlying' he w)]
            simp only [Conv.bytesToString]
            rw [run_bind_ok (run_loadCells h hg hle)]
            rw [← Array.forIn_toList]
            obtain ⟨s', r1, r2⟩ := run_bytes (P := P) (ρ := ρ) _ ByteArray.empty bs w hbs
            refine (run_bind_ok r1).trans ?_
            simp only [run_pure, LV.toV]
            congr 2
            apply ByteArray.ext
            apply Array.ext'
            rw [r2]
            simp
          · cases hc
        · cases hc
      · cases hc
    · cases hc
  · rename_i hs hd
    split at hc
    · cases hc
      refine ⟨⟨?_, by simp [LV.ok]⟩, rfl⟩
      simp only [convert]
      rw [run_bind_ok (run_underlying' hs w), run_bind_ok (run_underlying' hd w)]
      rfl
    · cases hc
  · rename_i e hs hd; exact (hns e hd).elim
  · cases hc


theorem sim_conv {s d : TypeId} {x v : LV} {g' : LHeap} (h : Rel W keep ρ g w) (hxok : x.ok ρ g.next) (hc : convL P s d x g = some (v, g')) : Makes P W keep ρ g w (convert s d (x.toV ρ)) v g' := by
  unfold convL at hc
  split at hc
  · rename_i sd k hs hd
    split at hc
    · rename_i kk n
      cases hc
      refine ⟨ρ, w, ?_, Post.same h (by simp [LV.ok])⟩
      simp only [convert]
      rw [run_bind_ok (run_underlying' hs w), run_bind_ok (run_underlying' hd w)]
      cases sd <;> rfl
    · cases hc
  · rename_i e hs hd
    split at hc
    · rename_i str he
      split at hc
      · rename_i hlen
        cases hc
        have hok : oks ρ g.next (str.map fun b => LV.int .u8 b.toNat) := (oks_iff _ _ _).2 fun v hv => by
          obtain ⟨b, _, rfl⟩ := List.mem_map.1 hv
          simp [LV.ok]
        have hcell : ∀ v ∈ (str.map fun b => LV.int .u8 b.toNat), v.cell = true := fun v hv => by
          obtain ⟨b, _, rfl⟩ := List.mem_map.1 hv
          rfl
        obtain ⟨c, c1, c2, c3⟩ := run_chooseCap (P := P) str.length 0 e (by omega) w
        have hrel := (h.drawn (n := w.drawn + 1)).newOpen (rest := Array.replicate (c - str.length) (.int .u8 0)) (ty := e) (fz := (c, c + 1)) hok hcell (fun o ho => by
          simp at ho; omega)
        refine ⟨_, _, ?_, Ren.put_ext _ _ _ _ _, hrel, ?_, by simp⟩
        · simp only [convert]
          rw [run_bind_ok (run_underlying' hs w), run_bind_ok (run_underlying' hd w)]
          simp only [LV.toV]
          rw [run_bind_ok (run_underlying' he w)]
          simp only [Conv.stringToBytes]
          have hsz : (⟨str.toArray⟩ : ByteArray).size = str.length := by simp [ByteArray.size]
          rw [hsz, run_bind_ok c3]
          rw [run_bind_ok (run_newRow _ _ _)]
          have harr : ((⟨str.toArray⟩ : ByteArray).data.map fun b => Value.int .u8 b.toNat) = (toVs ρ (str.map fun b => LV.int .u8 b.toNat)).toArray := by
            simp [toVs_eq, LV.toV, Function.comp_def]
          have hmark : (markStringish ⟨w.heap.size, 0, none⟩).run P { w with drawn := w.drawn + 1, heap := w.heap.push (.cells ((toVs ρ (str.map fun b => LV.int .u8 b.toNat)).toArray ++ Array.replicate (c - str.length) (.int .u8 0)) e) } =
              .ok () { w with drawn := w.drawn + 1, heap := w.heap.push (.cells ((toVs ρ (str.map fun b => LV.int .u8 b.toNat)).toArray ++ Array.replicate (c - str.length) (.int .u8 0)) e (c, c + 1)) } := by
            simp only [markStringish]
            rw [run_bind_ok (a := some (e, c)) (w' := { w with drawn := w.drawn + 1, heap := w.heap.push (.cells ((toVs ρ (str.map fun b => LV.int .u8 b.toNat)).toArray ++ Array.replicate (c - str.length) (.int .u8 0)) e) }) (by
              simp [shape, Sem.run, World.shape?, toVs_length]; omega)]
            simp only [freeze, Sem.run]
            rw [freeze_push { w with drawn := w.drawn + 1 }]
          rw [harr, run_bind_ok hmark]
          simp only [run_pure, Ren.put_addr, Ren.put_cap, Nat.sub_zero, Nat.div_one]
          congr 2
          simp; omega
        · simp only [LV.ok, Ren.put_cap, LHeap.next_alloc]
          refine ⟨by omega, by omega, ?_⟩
          simp
      · cases hc
    · cases hc
  · rename_i e hs hd
    split at hc
    · rename_i he
      split at hc
      · cases hc
        refine ⟨ρ, w, ?_, Post.same h (by simp [LV.ok])⟩
        simp only [convert]
        rw [run_bind_ok (run_underlying' hs w), run_bind_ok (run_underlying' hd w)]
        simp only [LV.toV]
        rw [run_bind_ok (run_underlying' he w)]
        rfl
      · cases hc
        refine ⟨ρ, w, ?_, Post.same h (by simp [LV.ok])⟩
        simp only [convert]
        rw [run_bind_ok (run_underlying' hs w), run_bind_ok (run_underlying' hd w)]
        simp only [LV.toV]
        rw [run_bind_ok (run_underlying' he w)]
        rfl
      · rename_i a off len cp
        split at hc
        · rename_i vs own hg
          split at hc
          · rename_i hle
            obtain ⟨bs, hbs, heq⟩ := Option.map_eq_some_iff.1 hc
            cases heq
            obtain ⟨cap, hv⟩ := slice_toV ρ a off len cp
            refine ⟨ρ, w, ?_, Post.same h (by simp [LV.ok])⟩
            rw [hv]
            simp only [convert]
            rw [run_bind_ok (run_underlying' hs w), run_bind_ok (run_underlying' hd w)]
            simp only
            rw [run_bind_ok (run_underlying' he w)]
            simp only [Conv.bytesToString]
            rw [run_bind_ok (run_loadCells h hg hle)]
            rw [← Array.forIn_toList]
            obtain ⟨s', r1, r2⟩ := run_bytes (P := P) (ρ := ρ) _ ByteArray.empty bs w hbs
            refine (run_bind_ok r1).trans ?_
            simp only [run_pure, LV.toV]
            congr 2
            apply ByteArray.ext
            apply Array.ext'
            rw [r2]
            simp
          · cases hc
        · cases hc
      · cases hc
    · cases hc
  · rename_i hs hd
    split at hc
    · cases hc
      refine ⟨ρ, w, ?_, Post.same h (by simp [LV.ok])⟩
      simp only [convert]
      rw [run_bind_ok (run_underlying' hs w), run_bind_ok (run_underlying' hd w)]
      rfl
    · cases hc
  · rename_i es e hs hd
    split at hc
    · rename_i a off len cp he
      split at hc
      · rename_i vs own hg
        split at hc
        · rename_i hcond
          obtain ⟨hsd, hro⟩ := hcond
          cases hc
          subst hsd
          obtain ⟨cap, hv⟩ := slice_toV ρ a off len cp
          obtain ⟨hlt, h1, h2, C, ty, fz, h3, h4, h5, h6, h7⟩ := h.obj a _ hg
          have hfr : w.freeze { block := (ρ.addr a off).block, off := C.size } 1 = { w with heap := w.heap.setIfInBounds (ρ.blk a) (.cells C ty (if fz.1 == fz.2 then (C.size, C.size + 1) else (min fz.1 C.size, max fz.2 (C.size + 1)))) } := by
            unfold World.freeze
            simp only [Nat.one_ne_zero, if_false, Ren.addr]
            congr 1
            apply Array.ext_getElem?
            intro j
            rw [Array.getElem?_modify, Array.getElem?_setIfInBounds]
            split
            · rename_i hj
              subst hj
              have hlt := (Array.getElem?_eq_some_iff.1 h3).1
              rw [h3, if_pos hlt]
              rfl
            · rfl
          refine ⟨ρ, _, ?_, Ren.Ext.refl _ _, h.turn (x := .cells C ty (if fz.1 == fz.2 then (C.size, C.size + 1) else (min fz.1 C.size, max fz.2 (C.size + 1)))) hg (by cases own <;> first | rfl | exact (hro rfl).elim) ?_, hxok, Nat.le_refl _⟩
          · rw [hv]
            simp only [convert]
            rw [run_bind_ok (run_underlying' hs w), run_bind_ok (run_underlying' hd w)]
            simp only
            rw [run_bind_ok (run_underlying' he w)]
            simp only [beq_self_eq_true]
            have hm : (markStringish (ρ.addr a off)).run P w = .ok () (w.freeze { block := (ρ.addr a off).block, off := C.size } 1) := by
              simp only [markStringish]
              rw [run_bind_ok (a := some (ty, C.size)) (w' := w) (by
                simp [shape, Sem.run, World.shape?, Ren.addr, h3])]
              rfl
            rw [run_bind_ok hm, hfr, run_pure]
          · refine ⟨h1, h2, C, ty, (if fz.1 == fz.2 then (C.size, C.size + 1) else (min fz.1 C.size, max fz.2 (C.size + 1))), ?_, h4, h5, fun e => (e rfl).elim, fun e => by cases e⟩
            have hlt := (Array.getElem?_eq_some_iff.1 h3).1
            simp [hlt]
        · cases hc
      · cases hc
    · cases hc
  · cases hc

/-! ### Interface values, tuples -/
theorem sim_iface {t : TypeId} {x v : LV} {n : Nat} (hx : x.ok ρ n) (h : ifaceL P t x = some v) : Yields1 P ρ n w (Instr.makeInterface t (x.toV ρ)) v := by
  unfold ifaceL at h
  split at h
  · cases h
  · rename_i d hne hd
    cases h
    refine ⟨?_, by simpa only [LV.ok] using hx⟩
    simp only [Instr.makeInterface]
    rw [run_bind_ok (run_underlying' hd w)]
    cases d with
    | interface ms => exact (hne ms rfl).elim
    | _ => rfl
  · cases h
theorem sim_assert {x v : LV} {t xt : TypeId} {ok : Bool} {n : Nat} (hx : x.ok ρ n) (h : assertL P x t ok = some v) : Yields1 P ρ n w (Instr.typeAssert (x.toV ρ) xt t ok) v := by
  unfold assertL at h
  split at h
  · cases h
  · rename_i d hne hd
    split at h
    · rename_i hok
      obtain ⟨z, hz, rfl⟩ := Option.map_eq_some_iff.1 h
      obtain ⟨z1, z2⟩ := run_zeroL (P := P) hz ρ n w
      refine ⟨?_, by simp only [LV.ok, oks]; exact ⟨z2, trivial, trivial⟩⟩
      simp only [Instr.typeAssert, LV.toV]
      rw [run_bind_ok (run_underlying' hd w)]
      cases d with
      | interface ms => exact (hne ms rfl).elim
      | _ => simp only [hok, if_true]; rw [run_bind_ok z1]; rfl
    · cases h
  · rename_i d u y hne hd
    split at h
    · rename_i hut
      cases h
      refine ⟨?_, ?_⟩
      · simp only [Instr.typeAssert, LV.toV]
        rw [run_bind_ok (run_underlying' hd w)]
        cases d with
        | interface ms => exact (hne ms rfl).elim
        | _ => simp only [hut, if_true]; cases ok <;> rfl
      · simp only [LV.ok] at hx
        cases ok
        · exact hx
        · simp only [if_true, LV.ok, oks]; exact ⟨hx, trivial, trivial⟩
    · rename_i hut
      split at h
      · rename_i hok
        obtain ⟨z, hz, rfl⟩ := Option.map_eq_some_iff.1 h
        obtain ⟨z1, z2⟩ := run_zeroL (P := P) hz ρ n w
        refine ⟨?_, by simp only [LV.ok, oks]; exact ⟨z2, trivial, trivial⟩⟩
        simp only [Instr.typeAssert, LV.toV]
        rw [run_bind_ok (run_underlying' hd w)]
        cases d with
        | interface ms => exact (hne ms rfl).elim
        | _ => simp only [hut, if_false, hok, if_true]; rw [run_bind_ok z1]; rfl
      · cases h
  · cases h
theorem sim_extract {x v : LV} {i n : Nat} (hx : x.ok ρ n) (h : extractL x i = some v) : Yields1 P ρ n w (Instr.extract (x.toV ρ) i) v := by
  unfold extractL at h
  split at h
  · rename_i vs
    simp only [LV.ok] at hx
    refine ⟨?_, (oks_iff _ _ _).1 hx v (List.mem_of_getElem? h)⟩
    simp only [LV.toV, Instr.extract, List.getElem?_toArray, toVs_getElem?, h, Option.map_some]
    rfl
  · cases h

/-! ### Iterators -/
theorem Rel.newIter {o : LObj} {x : Obj} (h : Rel W keep ρ g w) (ho : ∀ ρ' n, Ren.Ext g.next ρ ρ' → g.next ≤ n → ρ'.base g.next = 0 → ρ'.blk g.next = w.heap.size → ObjR ρ' n { w with heap := w.heap.push x } g.next o) :
    ∃ ρ' w', (do pure (.pointer (some ⟨← newObj x, 0, none⟩)) : Sem Value).run P w = .ok ((LV.ptr g.next 0).toV ρ') w' ∧ Post W keep ρ g (.ptr g.next 0) (g.alloc o) ρ' w' := by
  have hx : Ren.Ext g.next ρ (ρ.put g.next w.heap.size 0 0) := Ren.put_ext _ _ _ _ _
  refine ⟨_, _, ?_, hx, h.new (cap := 0) (ho _ (g.next + 1) hx (by omega) (by simp) (by simp)), by simp [LV.ok], by simp⟩
  rw [run_bind_ok (run_newObj x w)]
  simp only [run_pure, LV.toV, Ren.put_addr]
theorem sim_range {t : TypeId} {x v : LV} {g' : LHeap} (h : Rel W keep ρ g w) (hr : rangeL P t x g = some (v, g')) : Makes P W keep ρ g w (Instr.range t (x.toV ρ)) v g' := by
  unfold rangeL at hr
  split at hr
  · rename_i s hd
    cases hr
    obtain ⟨ρ', w', r1, r2⟩ := h.newIter (P := P) (o := .strIter s 0) (x := .stringIter ⟨s.toArray⟩ 0) (fun ρ' n hx hn hb hk => ⟨hb, by rw [hk]; simp⟩)
    refine ⟨ρ', w', ?_, r2⟩
    simp only [Instr.range]
    rw [run_bind_ok (run_underlying' hd w)]
    simp only [LV.toV]
    rw [run_bind_ok (run_pure P _ w)]
    exact r1
  · rename_i k e hd
    cases hr
    obtain ⟨ρ', w', r1, r2⟩ := h.newIter (P := P) (o := .mapIter none 0 [] 0) (x := .mapIter none 0 #[] 0) (fun ρ' n hx hn hb hk => ⟨hb, by simp, by rw [hk]; simp⟩)
    refine ⟨ρ', w', ?_, r2⟩
    simp only [Instr.range]
    rw [run_bind_ok (run_underlying' hd w)]
    simp only [LV.toV]
    rw [run_bind_ok (run_pure P _ w)]
    exact r1
  · rename_i k e a hd
    split at hr
    · rename_i es clock own hg
      cases hr
      obtain ⟨ρ', w', r1, r2⟩ := h.newIter (P := P) (o := .mapIter (some a) clock [] clock) (x := .mapIter (some (ρ.blk a)) clock #[] clock)
        (fun ρ' n hx hn hb hk => ⟨hb, fun b hb => by cases hb; have := (h.obj a _ hg).1; omega, by rw [hk, Option.map_some, (hx a (h.obj a _ hg).1).1]; simp⟩)
      refine ⟨ρ', w', ?_, r2⟩
      simp only [Instr.range]
      rw [run_bind_ok (run_underlying' hd w)]
      simp only [LV.toV]
      rw [run_bind_ok (run_getMap h hg)]
      simp only
      rw [run_bind_ok (run_pure P _ w)]
      exact r1
    · cases hr
  · cases hr

theorem ptr_iter {r : Nat} (hb : ρ.base r = 0) : (LV.ptr r 0).toV ρ = .pointer (some ⟨ρ.blk r, 0, none⟩) := by simp [LV.toV, Ren.addr, hb]
theorem run_getIter {i : Nat} {x : Obj} (hx : w.heap[ρ.blk i]? = some x) (hc : ∀ c t f, x ≠ .cells c t f) : (getObj (ρ.blk i)).run P w = .ok x w := by
  cases x with
  | cells c t f => exact absurd rfl (hc c t f)
  | _ => simp [getObj, Sem.run, hx]
theorem run_setIter {i : Nat} {x y : Obj} (hx : w.heap[ρ.blk i]? = some x) (hc : ∀ c t f, x ≠ .cells c t f) : (setObj (ρ.blk i) y).run P w = .ok () { w with heap := w.heap.setIfInBounds (ρ.blk i) y } := by
  cases x with
  | cells c t f => exact absurd rfl (hc c t f)
  | _ => simp [setObj, Sem.run, hx]

theorem sim_nextStr {it v : LV} {g' : LHeap} {ty : TypeId} (h : Rel W keep ρ g w) (hn : nextStrL it g = some (v, g')) : Makes P W keep ρ g w (Instr.next (it.toV ρ) true ty) v g' := by
  unfold nextStrL at hn
  split at hn
  · rename_i r
    split at hn
    · rename_i s pos hg
      obtain ⟨hlt, hb, hh⟩ := h.obj r _ hg
      have hsz : (⟨s.toArray⟩ : ByteArray).size = s.length := by simp [ByteArray.size]
      split at hn
      · rename_i hp
        cases hn
        refine ⟨ρ, { w with heap := w.heap.setIfInBounds (ρ.blk r) (.stringIter ⟨s.toArray⟩ (pos + (Utf8.decode ⟨s.toArray⟩ pos).2)) }, ?_, Ren.Ext.refl _ _, h.turn hg rfl ⟨hb, ?_⟩, by simp [LV.ok, oks], by simp⟩
        · rw [ptr_iter hb]
          simp only [Instr.next]
          rw [run_bind_ok (run_getIter hh (by simp))]
          simp only [hsz, hp, if_true]
          rw [run_bind_ok (run_setIter hh (by simp))]
          rfl
        · have := (Array.getElem?_eq_some_iff.1 hh).1
          simp [this]
      · rename_i hp
        cases hn
        refine ⟨ρ, w, ?_, Post.same h (by simp [LV.ok, oks])⟩
        rw [ptr_iter hb]
        simp only [Instr.next]
        rw [run_bind_ok (run_getIter hh (by simp))]
        simp only [hsz, hp, if_false]
        rfl
    · cases hn
  · cases hn

end Go.Lm

/-
  The logical machine, part L: an operation, as a whole.
-/
namespace Go.Lm

variable {P : Program} {W : World} {keep : Nat → Prop} {ρ : Ren} {g : LHeap} {w : World}

/-- Whatever a map's iterator may yield next. -/
theorem sim_nextMap {it : LV} {K : LV → LHeap → Prop} {ty : TypeId} (h : Rel W keep ρ g w) (hn : nextMapL it g K) :
    ∃ v g' ρ' w', (Instr.next (it.toV ρ) false ty).run P w = .ok (v.toV ρ') w' ∧ Post W keep ρ g v g' ρ' w' ∧ K v g' := by
  unfold nextMapL at hn
  split at hn
  · rename_i r
    split at hn
    · rename_i since seen stepped hg
      obtain ⟨hlt, hb, _, hh⟩ := h.obj r _ hg
      refine ⟨_, _, ρ, w, ?_, Post.same h (by simp [LV.ok, oks]), hn⟩
      rw [ptr_iter hb]
      simp only [Instr.next]
      rw [run_bind_ok (run_getIter hh (by simp))]
      rfl
    · rename_i m since seen last hg
      split at hn
      · rename_i es clock own hm
        obtain ⟨hlt, hb, hbm, hh⟩ := h.obj r _ hg
        obtain ⟨n1, n2, n3⟩ := hn
        have hes := (h.obj m _ hm).2.1
        -- the candidates
        have hall : (!seen.toArray.isEmpty && !((es.map (toE ρ)).toArray).isEmpty && ((es.map (toE ρ)).toArray).all (fun e => decide (e.born ≥ last))) = false := by
          rw [← n1]
          simp [toE, Function.comp_def]; rfl
        have hleft : (((es.map (toE ρ)).toArray).filter fun e => !seen.toArray.contains e.born) = ((es.filter fun e => !seen.contains e.2.2).map (toE ρ)).toArray := by
          simp [List.filter_map, toE, Function.comp_def]; rfl
        have hold : ((((es.filter fun e => !seen.contains e.2.2).map (toE ρ)).toArray).filter fun e => decide (e.born < since)) = (((es.filter fun e => !seen.contains e.2.2).filter fun e => decide (e.2.2 < since)).map (toE ρ)).toArray := by
          simp [List.filter_map, toE, Function.comp_def]; rfl
        have hnew : ((((es.filter fun e => !seen.contains e.2.2).map (toE ρ)).toArray).filter fun e => decide (e.born ≥ since)) = (((es.filter fun e => !seen.contains e.2.2).filter fun e => decide (e.2.2 ≥ since)).map (toE ρ)).toArray := by
          simp [List.filter_map, toE, Function.comp_def]; rfl
        generalize hO : (es.filter fun e => !seen.contains e.2.2).filter (fun e => decide (e.2.2 < since)) = O at *
        generalize hN : (es.filter fun e => !seen.contains e.2.2).filter (fun e => decide (e.2.2 ≥ since)) = N at *
        have hmem : ∀ e ∈ O ++ N, e ∈ es ∧ seen.contains e.2.2 = false := by
          intro e he
          rcases List.mem_append.1 he with he | he
          · rw [← hO] at he
            have := (List.mem_filter.1 he).1
            exact ⟨(List.mem_filter.1 this).1, by simpa using (List.mem_filter.1 this).2⟩
          · rw [← hN] at he
            have := (List.mem_filter.1 he).1
            exact ⟨(List.mem_filter.1 this).1, by simpa using (List.mem_filter.1 this).2⟩
        let cands : List (Option MapEntry) := (if O = [] then [none] else []) ++ (O ++ N).map fun e => some (toE ρ e)
        have hc : ((if ((O.map (toE ρ)).toArray).isEmpty then #[none] else #[]) ++ ((O.map (toE ρ)).toArray ++ (N.map (toE ρ)).toArray).map some) = cands.toArray := by
          cases O with
          | nil => simp [cands, Function.comp_def]
          | cons x xs => simp [cands, Function.comp_def]
        have hpos : 0 < cands.length := by
          cases O with
          | nil => simp [cands]
          | cons x xs => simp [cands]
        have hch : ∃ k n', k < cands.length ∧ (choose (.mapNext cands.length)).run P w = .ok k { w with drawn := n' } := by
          by_cases h1 : cands.length ≤ 1
          · refine ⟨0, w.drawn, hpos, ?_⟩
            simp [choose, Sem.run, Question.forced, h1]
          · refine ⟨_, w.drawn + 1, Nat.mod_lt (w.tape w.drawn (.mapNext cands.length)) hpos, ?_⟩
            simp [choose, Sem.run, Question.forced, Question.cut, h1]
        obtain ⟨k, n', hk, hrun⟩ := hch
        have hd : Rel W keep ρ g { w with drawn := n' } := h.drawn
        have start : ∀ r' : Result Value, ((match cands.toArray[k]? with
            | some (some e) => do
              setObj (ρ.blk r) (.mapIter (some (ρ.blk m)) since (seen.toArray.push e.born) clock)
              pure (.tuple #[.bool true, e.key, e.val])
            | some none => pure (.tuple #[.bool false])
            | none => stuck "Next: no such candidate" : Sem Value)).run P { w with drawn := n' } = r' →
            (Instr.next ((LV.ptr r 0).toV ρ) false ty).run P w = r' := by
          intro r' hr'
          rw [ptr_iter hb]
          simp only [Instr.next]
          rw [run_bind_ok (run_getIter hh (by simp))]
          simp only [Option.map_some]
          rw [run_bind_ok (run_getMap h hm)]
          simp only [hall, Bool.false_eq_true, if_false]
          rw [hleft, hold, hnew, hc, List.size_toArray, run_bind_ok hrun]
          exact hr'
        cases hck : cands[k]? with
        | none => rw [List.getElem?_eq_none_iff] at hck; omega
        | some c =>
          cases c with
          | none =>
            have hO0 : O = [] := by
              cases O with
              | nil => rfl
              | cons x xs =>
                simp only [cands, List.cons_ne_nil, if_false, List.nil_append, List.getElem?_map, Option.map_eq_some_iff] at hck
                obtain ⟨_, _, e⟩ := hck
                cases e
            refine ⟨_, _, ρ, { w with drawn := n' }, start _ ?_, Post.same hd (by simp [LV.ok, oks]), n2 hO0⟩
            rw [List.getElem?_toArray, hck]
            rfl
          | some e =>
            have hex : ∃ x ∈ O ++ N, e = toE ρ x := by
              have : some e ∈ cands := List.mem_of_getElem? hck
              simp only [cands, List.mem_append, List.mem_map] at this
              rcases this with hh | ⟨x, hx, hxe⟩
              · split at hh <;> simp at hh
              · exact ⟨x, List.mem_append.2 hx, (Option.some.inj hxe).symm⟩
            obtain ⟨x, hx, rfl⟩ := hex
            obtain ⟨hxm, hxs⟩ := hmem x hx
            have hxo := hes x hxm
            refine ⟨.tuple [.bool true, x.1, x.2.1], _, ρ, { w with drawn := n', heap := w.heap.setIfInBounds (ρ.blk r) (.mapIter (some (ρ.blk m)) since (seen.toArray.push x.2.2) clock) }, start _ ?_, ⟨Ren.Ext.refl _ _, ?_, ?_, ?_⟩, n3 x hxm hxs⟩
            · rw [List.getElem?_toArray, hck]
              simp only [toE]
              rw [run_bind_ok (run_setIter (w := { w with drawn := n' }) hh (by simp))]
              simp [LV.toV, toVs]
            · refine hd.turn hg rfl ⟨hb, hbm, ?_⟩
              have := (Array.getElem?_eq_some_iff.1 hh).1
              simp [this]
            · simp only [LV.ok, oks, LHeap.next_set]
              exact ⟨trivial, hxo.1, hxo.2, trivial⟩
            · simp
      · exact hn.elim
    · exact hn.elim
  · exact hn.elim

theorem sim_entry {it v : LV} (h : Rel W keep ρ g w) (hn : entryL it g = some v) : Yields1 P ρ g.next w (Instr.entry (it.toV ρ)) v := by
  unfold entryL at hn
  split at hn
  · rename_i r
    split at hn
    · rename_i m since seen stepped hg
      obtain ⟨hlt, hb, hbm, hh⟩ := h.obj r _ hg
      split at hn
      · rename_i stamp es clock own hl hm
        split at hn
        · rename_i hcl
          split at hn
          · rename_i e he
            cases hn
            have hes := (h.obj m _ hm).2.1 e (List.mem_of_find?_eq_some he)
            refine ⟨?_, by simp only [LV.ok, oks]; exact ⟨hes.1, hes.2, trivial⟩⟩
            rw [ptr_iter hb]
            simp only [Instr.entry]
            rw [run_bind_ok (run_getIter hh (by simp))]
            have hback : seen.toArray.back? = some stamp := by simpa using hl
            simp only [Option.map_some, hback]
            rw [run_bind_ok (run_getMap h hm)]
            have hfind : ((es.map (toE ρ)).toArray).find? (fun e => e.born == stamp) = some (toE ρ e) := by
              have : (fun e : MapEntry => e.born == stamp) ∘ toE ρ = fun e => e.2.2 == stamp := rfl
              simp only [List.find?_toArray, List.find?_map, this, he, Option.map_some]
            simp only [hcl, bne_self_eq_false, Bool.false_eq_true, if_false, hfind]
            rfl
          · cases hn
        · cases hn
      · cases hn
    · cases hn
  · cases hn

/-! ### Operands -/
structure TRel (ρ : Ren) (n : Nat) (tm : Nat → LV) (tmps : Array Value) : Prop where
  val : ∀ t, tmps.getD t undef = (tm t).toV ρ
  ok : ∀ t, (tm t).ok ρ n
theorem ev_val {n : Nat} {tm : Nat → LV} {a : Act} (ht : TRel ρ n tm a.tmps) (x : Operand) (hx : fineO x = true) : a.eval x = (evL tm x).toV ρ ∧ (evL tm x).ok ρ n := by
  cases x with
  | tmp t => exact ⟨ht.val t, ht.ok t⟩
  | const v =>
    simp only [fineO, Option.isSome_iff_exists] at hx
    obtain ⟨l, hl⟩ := hx
    obtain ⟨h1, h2⟩ := ofV_ok ρ n _ _ _ hl
    simp only [evL, constL, hl, Option.getD_some, Act.eval]
    exact ⟨h1.symm, h2⟩
  | global g => simp [fineO] at hx
  | func f => exact ⟨rfl, by simp [evL, LV.ok, oks]⟩

/-- A function is called in the heap g: it returns some v in some g' for which K holds. -/
def Ok (P : Program) : CallSem := fun f args g K =>
  (∃ fn c, P.funcs[f]? = some fn ∧ fn.body = some c ∧ (fn.name == "runtime.NumGoroutine") = false) ∧
  ∀ W keep ρ w, Rel W keep ρ g w → oks ρ g.next args →
    Calls P f (toVs ρ args).toArray w fun e w' => ∃ v g' ρ', e = .returned (v.toV ρ') ∧ Post W keep ρ g v g' ρ' w' ∧ K v g'
theorem Ok.mono {f : FuncId} {args : List LV} {K K' : LV → LHeap → Prop} (h : Ok P f args g K) (hK : ∀ v g', K v g' → K' v g') : Ok P f args g K' :=
  ⟨h.1, fun W keep ρ w hr ha => (h.2 W keep ρ w hr ha).mono fun _ _ ⟨v, g', ρ', h1, h2, h3⟩ => ⟨v, g', ρ', h1, h2, hK _ _ h3⟩⟩

theorem run_callFunc {f : FuncId} {fn : Func} {c : Code} (hf : P.funcs[f]? = some fn) (hb : fn.body = some c) (hn : (fn.name == "runtime.NumGoroutine") = false) (args : Array Value) (w : World) :
    (callFunc f args).run P w = .ok (.enter f args) w := by
  simp only [callFunc]
  rw [run_bind_ok (run_program P w)]
  simp only [hf, hn, Bool.false_eq_true, if_false, hb, Option.isNone_some]
  rfl

/-- What is left behind an operation. -/
def Next1 (W : World) (keep : Nat → Prop) (ρ : Ren) (g : LHeap) (a : Act) (dst : Option Tmp) (K : LV → LHeap → Prop) : Act → World → Prop := fun a' w' =>
  ∃ v g' ρ', Post W keep ρ g v g' ρ' w' ∧ a' = a.put dst (v.toV ρ') ∧ K v g'

theorem wp_yields {r : Option Nat} {o : Oper} {a : Act} {K : LV → LHeap → Prop} {Q : Exit → Act → World → Prop} {s : Sem Value} {v : LV} (h : Rel W keep ρ g w) (he : execOp a.eval o = (do pure (.value (← s)) : Sem Next))
    (hs : Yields1 P ρ g.next w s v) (hK : K v g) (hd : ∀ c, o.op ≠ .defer c := by intro c hc; cases hc) : o.wpIn (wideR r) 0 P a w (Next1 W keep ρ g a o.dst K) Q := by
  refine ⟨fun _ _ => trivial, ?_⟩
  rw [Oper.semAt_eq _ _ _ hd, he, run_bind_ok hs.1, run_pure, Oper.uponIn_value]
  exact ⟨v, g, ρ, Post.same h hs.2, rfl, hK⟩
theorem wp_makes {r : Option Nat} {o : Oper} {a : Act} {K : LV → LHeap → Prop} {Q : Exit → Act → World → Prop} {s : Sem Value} {v : LV} {g' : LHeap} (he : execOp a.eval o = (do pure (.value (← s)) : Sem Next))
    (hs : Makes P W keep ρ g w s v g') (hK : K v g') (hd : ∀ c, o.op ≠ .defer c := by intro c hc; cases hc) : o.wpIn (wideR r) 0 P a w (Next1 W keep ρ g a o.dst K) Q := by
  obtain ⟨ρ', w', h1, h2⟩ := hs
  refine ⟨fun _ _ => trivial, ?_⟩
  rw [Oper.semAt_eq _ _ _ hd, he, run_bind_ok h1, run_pure, Oper.uponIn_value]
  exact ⟨v, g', ρ', h2, rfl, hK⟩
theorem wp_turns {r : Option Nat} {o : Oper} {a : Act} {K : LV → LHeap → Prop} {Q : Exit → Act → World → Prop} {s : Sem Unit} {g' : LHeap} (he : execOp a.eval o = (do s; pure .skip : Sem Next))
    (hs : Turns P W keep ρ g w s g') (hK : K undefL g') (hd : ∀ c, o.op ≠ .defer c := by intro c hc; cases hc) : o.wpIn (wideR r) 0 P a w (Next1 W keep ρ g a o.dst K) Q := by
  obtain ⟨w', h1, h2, h3⟩ := hs
  refine ⟨fun _ _ => trivial, ?_⟩
  rw [Oper.semAt_eq _ _ _ hd, he, run_bind_ok h1, run_pure, Oper.uponIn_skip]
  exact ⟨undefL, g', ρ, ⟨Ren.Ext.refl _ _, h2, by simp [undefL, LV.ok, oks], by rw [h3]; exact Nat.le_refl _⟩, rfl, hK⟩
theorem wp_value {r : Option Nat} {o : Oper} {a : Act} {K : LV → LHeap → Prop} {Q : Exit → Act → World → Prop} {v : LV} {g' : LHeap} {ρ' : Ren} {w' : World} (he : (execOp a.eval o).run P w = .ok (.value (v.toV ρ')) w')
    (hp : Post W keep ρ g v g' ρ' w') (hK : K v g') (hd : ∀ c, o.op ≠ .defer c := by intro c hc; cases hc) : o.wpIn (wideR r) 0 P a w (Next1 W keep ρ g a o.dst K) Q := by
  refine ⟨fun _ _ => trivial, ?_⟩
  rw [Oper.semAt_eq _ _ _ hd, he, Oper.uponIn_value]
  exact ⟨v, g', ρ', hp, rfl, hK⟩
theorem wp_call {r : Option Nat} {o : Oper} {a : Act} {K : LV → LHeap → Prop} {Q : Exit → Act → World → Prop} {f : FuncId} {args : List LV} (h : Rel W keep ρ g w) (hargs : oks ρ g.next args)
    (hC : Ok P f args g K) (he : (execOp a.eval o).run P w = (callFunc f (toVs ρ args).toArray).run P w) (hd : ∀ c, o.op ≠ .defer c := by intro c hc; cases hc) : o.wpIn (wideR r) 0 P a w (Next1 W keep ρ g a o.dst K) Q := by
  obtain ⟨⟨fn, c, hf, hb, hn⟩, hC⟩ := hC
  refine ⟨fun _ _ => trivial, ?_⟩
  rw [Oper.semAt_eq _ _ _ hd, he, run_callFunc hf hb hn, Oper.uponIn_enter]
  refine ⟨fun h => (by cases h), ?_⟩
  exact (callsIn_wide (n := 0)).2 ((hC W keep ρ w h hargs).mono fun e w' ⟨v, g', ρ', h1, h2, h3⟩ => by
    subst h1
    exact ⟨v, g', ρ', h2, rfl, h3⟩)
theorem wp_round {r : Option Nat} {o : Oper} {a : Act} {K : LV → LHeap → Prop} {Q : Exit → Act → World → Prop} {l : Nat} {args : List LV} (h : Rel W keep ρ g w) (hargs : oks ρ g.next args) (hl : l < g.next)
    (hC : Round P l args g K) (he : (execOp a.eval o).run P w = (Instr.yield (ρ.blk l) (toVs ρ args).toArray).run P w) (hd : ∀ c, o.op ≠ .defer c := by intro c hc; cases hc) : o.wpIn (wideR r) 0 P a w (Next1 W keep ρ g a o.dst K) Q := by
  obtain ⟨f, tmps, assign, body, h1, h2⟩ := hC W keep ρ w h hargs hl
  refine ⟨fun _ _ => trivial, ?_⟩
  rw [Oper.semAt_eq _ _ _ hd, he, h1, Oper.uponIn_round]
  refine ⟨fun h => (by cases h), ?_⟩
  exact RoundIn.mono h2 fun e w' ⟨v, g', ρ', h1, h2, h3⟩ => by
    subst h1
    exact ⟨v, g', ρ', h2, rfl, h3⟩

theorem vK_elim {o : Option LV} {K : LV → Prop} (h : vK o K) : ∃ v, o = some v ∧ K v := by
  cases o with
  | none => exact h.elim
  | some v => exact ⟨v, rfl, h⟩
theorem gK_elim {o : Option LHeap} {K : LHeap → Prop} (h : gK o K) : ∃ v, o = some v ∧ K v := by
  cases o with
  | none => exact h.elim
  | some v => exact ⟨v, rfl, h⟩
theorem oK_elim {o : Option (LV × LHeap)} {K : LV → LHeap → Prop} (h : oK o K) : ∃ v g, o = some (v, g) ∧ K v g := by
  cases o with
  | none => exact h.elim
  | some v => exact ⟨v.1, v.2, rfl, h⟩

theorem eqL_spec {t : TypeId} {lit r : Bool} {x y : LV} (h : eqL P t lit x y = some r) : eqTy P 60 t x y = some r ∧ (∀ a b, x = .agg a → y = .agg b → P.eqGuardType P.depth t = false) ∧ (x = .nili → y = .nili → lit = true) := by
  unfold eqL at h
  split at h
  · split at h
    · cases h
    · rename_i hg
      exact ⟨h, fun _ _ _ _ => by simpa using hg, fun e => by cases e⟩
  · split at h
    · rename_i hl
      exact ⟨h, fun _ _ e => (by cases e), fun _ _ => hl⟩
    · cases h
  · rename_i n1 n2
    exact ⟨h, fun a b e1 e2 => (n1 a b e1 e2).elim, fun e1 e2 => (n2 e1 e2).elim⟩
theorem isConst_eq (x : Operand) : isConstO x = (match x with | .const _ => true | _ => false) := by cases x <;> rfl
theorem toV_nili {x : LV} (h : x.toV ρ = .nilIface) : x = .nili := by
  cases x with
  | nili => rfl
  | slice a off l c => cases c <;> simp [LV.toV] at h
  | _ => simp [LV.toV] at h
theorem toV_agg {x : LV} {c : Array Value} (h : x.toV ρ = .agg c) : ∃ cs, x = .agg cs := by
  cases x with
  | agg cs => exact ⟨cs, rfl⟩
  | slice a off l c => cases c <;> simp [LV.toV] at h
  | _ => simp [LV.toV] at h
theorem run_eqGuard {op : BinOp} {t : TypeId} {x y : Operand} {a b : LV} {r : Bool} (h : eqL P t (isConstO x || isConstO y) a b = some r) (w : World) :
    (eqGuard op t x y (a.toV ρ) (b.toV ρ)).run P w = .ok () w := by
  obtain ⟨_, h2, h3⟩ := eqL_spec h
  cases op <;> first | rfl | skip
  all_goals
    simp only [eqGuard, Bool.not_true, Bool.false_eq_true, if_false]
    split
    · rename_i e1 e2
      have hl := h3 (toV_nili e1) (toV_nili e2)
      cases x <;> cases y <;> first | rfl | (simp [isConstO] at hl)
    · rename_i ca cb e1 e2
      obtain ⟨_, ea⟩ := toV_agg e1
      obtain ⟨_, eb⟩ := toV_agg e2
      have hg := h2 _ _ ea eb
      rw [run_bind_ok (run_program P w), run_bind_ok (run_program P w)]
      simp only [hg]
      rfl
    · rfl
theorem binOp_eql {t : TypeId} {a b : Value} (h1 : ∀ k m k' n, ¬ (a = .int k m ∧ b = .int k' n)) (h2 : ∀ s u, ¬ (a = .string s ∧ b = .string u)) (h3 : ∀ k m k' n, ¬ (a = .float k m ∧ b = .float k' n)) (h4 : ∀ k m n k' m' n', ¬ (a = .complex k m n ∧ b = .complex k' m' n')) :
    binOp .eql t a b = (do pure (.bool (← Op.equal t a b))) ∧ binOp .neq t a b = (do pure (.bool (!(← Op.equal t a b)))) := by
  constructor
  · unfold binOp
    split <;> first | rfl | (rename_i e1 e2 e3; first | exact (h1 _ _ _ _ ⟨rfl, rfl⟩).elim | exact (h2 _ _ ⟨rfl, rfl⟩).elim | exact (h3 _ _ _ _ ⟨rfl, rfl⟩).elim | exact (h4 _ _ _ _ _ _ ⟨rfl, rfl⟩).elim) | simp_all
  · unfold binOp
    split <;> first | rfl | (rename_i e1 e2 e3; first | exact (h1 _ _ _ _ ⟨rfl, rfl⟩).elim | exact (h2 _ _ ⟨rfl, rfl⟩).elim | exact (h3 _ _ _ _ ⟨rfl, rfl⟩).elim | exact (h4 _ _ _ _ _ _ ⟨rfl, rfl⟩).elim) | simp_all
theorem toV_num {x : LV} : (∀ k n, x.toV ρ ≠ .float k n) ∧ (∀ k m n, x.toV ρ ≠ .complex k m n) ∧ (∀ k n, x.toV ρ = .int k n → x = .int k n) ∧ (∀ s, x.toV ρ = .string s → ∃ l, x = .str l) := by
  cases x with
  | slice a off l c => cases c <;> simp [LV.toV]
  | _ => simp [LV.toV]

theorem strBin_spec {op : BinOp} {a b : List UInt8} {v : LV} (h : strBin op a b = some v) (n : Nat) : Yields1 P ρ n w (Op.stringOp op ⟨a.toArray⟩ ⟨b.toArray⟩) v := by
  have hsz : ∀ l : List UInt8, (⟨l.toArray⟩ : ByteArray).size = l.length := fun l => by simp [ByteArray.size]
  unfold strBin at h
  split at h
  · split at h
    · cases h
    · rename_i hc
      cases h
      refine ⟨?_, by simp [LV.ok]⟩
      simp only [Op.stringOp, hsz]
      rw [if_neg hc]
      simp only [run_pure, LV.toV]
      congr 2
  all_goals first | (cases h; refine ⟨?_, by simp [LV.ok]⟩; simp only [Op.stringOp, toList_mk, run_pure, LV.toV]; done) | cases h

theorem sim_bin {op : BinOp} {t : TypeId} {x y : Operand} {a b v : LV} {n : Nat} (h : binL P op t (isConstO x || isConstO y) a b = some v) :
    Yields1 P ρ n w (do eqGuard op t x y (a.toV ρ) (b.toV ρ); binOp op t (a.toV ρ) (b.toV ρ)) v := by
  unfold binL at h
  split at h
  · rename_i k i k' i'
    obtain ⟨r1, r2⟩ := ofPure_spec (P := P) h ρ n w
    refine ⟨?_, r2⟩
    have hg : (eqGuard op t x y (.int k i) (.int k' i')).run P w = .ok () w := by
      simp only [eqGuard]; split <;> rfl
    simp only [LV.toV]
    rw [run_bind_ok hg]
    exact r1
  · rename_i s u
    obtain ⟨r1, r2⟩ := strBin_spec (P := P) (ρ := ρ) (w := w) h n
    refine ⟨?_, r2⟩
    have hg : (eqGuard op t x y (.string ⟨s.toArray⟩) (.string ⟨u.toArray⟩)).run P w = .ok () w := by
      simp only [eqGuard]; split <;> rfl
    simp only [LV.toV]
    rw [run_bind_ok hg]
    have : binOp op t (.string ⟨s.toArray⟩) (.string ⟨u.toArray⟩) = Op.stringOp op ⟨s.toArray⟩ ⟨u.toArray⟩ := by
      cases op <;> rfl
    rw [this]
    exact r1
  · rename_i n1 n2
    have hb := binOp_eql (t := t) (a := a.toV ρ) (b := b.toV ρ)
      (fun k m k' m' ⟨e1, e2⟩ => n1 k m k' m' (toV_num.2.2.1 _ _ e1) (toV_num.2.2.1 _ _ e2))
      (fun s u ⟨e1, e2⟩ => by
        obtain ⟨l1, f1⟩ := (toV_num (x := a)).2.2.2 _ e1
        obtain ⟨l2, f2⟩ := (toV_num (x := b)).2.2.2 _ e2
        exact n2 _ _ f1 f2)
      (fun k m k' m' ⟨e1, _⟩ => toV_num.1 _ _ e1)
      (fun k m n k' m' n' ⟨e1, _⟩ => toV_num.2.1 _ _ _ e1)
    split at h
    · obtain ⟨r, hr, rfl⟩ := Option.map_eq_some_iff.1 h
      refine ⟨?_, by simp [LV.ok]⟩
      rw [run_bind_ok (run_eqGuard hr w), hb.1, run_bind_ok (run_equal (eqL_spec hr).1 w)]
      rfl
    · obtain ⟨r, hr, rfl⟩ := Option.map_eq_some_iff.1 h
      refine ⟨?_, by simp [LV.ok]⟩
      rw [run_bind_ok (run_eqGuard hr w), hb.2, run_bind_ok (run_equal (eqL_spec hr).1 w)]
      rfl
    · cases h

/-! ### Methods of dynamic types -/
theorem methodL_elim {P : Program} {t : TypeId} {name : String} {f : FuncId} (h : methodL P t name = some f) : ∃ i el m, P.info? t = some i ∧ P.underlying t = some (.pointer el) ∧ i.methods.find? (·.name == name) = some m ∧ m.path.toList = [] ∧ m.func = some (f, true) := by
  unfold methodL at h
  split at h
  · rename_i i el hi hd
    split at h
    · rename_i m hfind
      split at h
      · rename_i hpath
        split at h
        · rename_i fid hmf
          cases h
          exact ⟨i, el, m, hi, hd, hfind, by simpa using hpath, hmf⟩
        · cases h
      · cases h
    · cases h
  · cases h
theorem method_run {P : Program} {t : TypeId} {name : String} {f : FuncId} (h : methodL P t name = some f) (w : World) (v : Value) : (method (P.types.size + Made.depth) t v name).run P w = .ok (f, v) w := by
  obtain ⟨i, el, m, hi, hd, hfind, hp0, hmf⟩ := methodL_elim h
  have hdep : 1 ≤ Made.depth := by decide
  obtain ⟨k, hk⟩ : ∃ k, P.types.size + Made.depth = k + 1 := ⟨P.types.size + Made.depth - 1, by omega⟩
  rw [hk]
  simp only [method]
  rw [run_bind_ok (run_typeInfo hi w)]
  simp only [hfind]
  rw [hp0]
  simp only [follow]
  rw [run_bind_ok (run_pure P _ w)]
  simp only [hmf]
  have hr : ∀ s : Option String, (receiverAt t (.val v) true s).run P w = .ok v w := by
    intro s
    simp only [receiverAt]
    rw [run_bind_ok (run_underlying' hd w)]
    rfl
  rw [run_bind_ok (hr _)]
  rfl
theorem nilAhead_run {P : Program} {t : TypeId} {name : String} {f : FuncId} (h : methodL P t name = some f) (w : World) (v : Value) : (nilAhead (P.types.size + Made.depth) t v name).run P w = .ok (some false) w := by
  obtain ⟨i, el, m, hi, hd, hfind, hp0, hmf⟩ := methodL_elim h
  have hdep : 1 ≤ Made.depth := by decide
  obtain ⟨k, hk⟩ : ∃ k, P.types.size + Made.depth = k + 1 := ⟨P.types.size + Made.depth - 1, by omega⟩
  rw [hk]
  simp only [nilAhead]
  rw [run_bind_ok (run_typeInfo hi w)]
  simp only [hfind]
  rw [hp0]
  simp only [followBlind]
  rw [run_bind_ok (run_pure P _ w)]
  simp only [hmf]
  rfl
theorem nilCheckP_run {P : Program} {x v : LV} {ρ : Ren} {w : World} {e : Operand → Value} {dst : Option Tmp} {y : Operand} {ty : TypeId} {pos : String} {after : Array Edge} {guard : Option (Nat × Bool)}
    (h : nilCheckP P x = some v) (he : e y = x.toV ρ) : v = x ∧ (execOp e ⟨dst, .nilCheck y, ty, pos, after, guard⟩).run P w = .ok (.value (x.toV ρ)) w := by
  unfold nilCheckP at h
  split at h
  · rename_i name t u first caps
    split at h
    · rename_i f hm
      cases h
      refine ⟨rfl, ?_⟩
      simp only [execOp, he, LV.toV, toVs]
      have h0 : ((Value.iface t (u.toV ρ) :: toVs ρ first).toArray)[0]? = some (.iface t (u.toV ρ)) := by simp
      simp only [h0]
      rw [run_bind_ok (run_program P w)]
      rw [run_bind_ok (nilAhead_run hm w (u.toV ρ))]
      rfl
    · cases h
  · unfold nilCheckL at h
    split at h
    · cases h; exact ⟨rfl, by simp only [execOp, he]; rfl⟩
    · cases h; exact ⟨rfl, by simp only [execOp, he]; rfl⟩
    · cases h; exact ⟨rfl, by simp only [execOp, he]; rfl⟩
    · cases h

end Go.Lm

/-
  The logical machine, part M: every operation is sound.
-/
namespace Go.Lm

variable {ro : Option Nat} {P : Program} {W : World} {keep : Nat → Prop} {ρ : Ren} {g : LHeap} {w : World}

theorem evs_val {n : Nat} {tm : Nat → LV} {a : Act} (ht : TRel ρ n tm a.tmps) (l : List Operand) (hl : ∀ x ∈ l, fineO x = true) :
    l.map a.eval = toVs ρ (l.map (evL tm)) ∧ oks ρ n (l.map (evL tm)) := by
  induction l with
  | nil => exact ⟨rfl, by simp [oks]⟩
  | cons x l ih =>
    obtain ⟨h1, h2⟩ := ih (fun y hy => hl y (by simp [hy]))
    obtain ⟨e1, e2⟩ := ev_val ht x (hl x (by simp))
    exact ⟨by simp only [List.map_cons, toVs, h1, e1], e2, h2⟩
theorem parts_val {n : Nat} {tm : Nat → LV} {a : Act} (ht : TRel ρ n tm a.tmps) (l : List (Nat × Operand)) (hl : ∀ x ∈ l, fineO x.2 = true) :
    l.map (fun p => (p.1, a.eval p.2)) = (l.map fun p => (p.1, evL tm p.2)).map (fun p => (p.1, p.2.toV ρ)) ∧ ∀ p ∈ (l.map fun p => (p.1, evL tm p.2)), p.2.ok ρ n := by
  constructor
  · rw [List.map_map]
    exact List.map_congr_left fun p hp => by simp only [Function.comp, (ev_val ht p.2 (hl p hp)).1]
  · intro p hp
    obtain ⟨q, hq, rfl⟩ := List.mem_map.1 hp
    exact (ev_val ht q.2 (hl q hq)).2

theorem os_move {tm : Nat → LV} {dst : Option Tmp} (x : Operand) {type : TypeId} {pos : String} {after : Array Edge} {guard : Option (Nat × Bool)} {a : Act} {K : LV → LHeap → Prop} {Q : Exit → Act → World → Prop}
    (hfine : ∀ oo ∈ (Op.move x).operands, fineO oo = true) (h : Rel W keep ρ g w) (ht : TRel ρ g.next tm a.tmps) (hK : opL P (Ok P) tm ⟨dst, .move x, type, pos, after, guard⟩ g K) :
    Oper.wpIn (wideR ro) 0 P ⟨dst, .move x, type, pos, after, guard⟩ a w (Next1 W keep ρ g a dst K) Q := by
  have ev : ∀ oo ∈ (Op.move x).operands, a.eval oo = (evL tm oo).toV ρ ∧ (evL tm oo).ok ρ g.next := fun x hx => ev_val ht x (hfine x hx)
  unfold opL at hK
  simp only [Op.operands] at ev hfine hK
  exact wp_yields (s := pure (a.eval x)) h rfl ⟨by rw [run_pure, (ev x (by simp)).1], (ev x (by simp)).2⟩ hK

theorem os_assign {tm : Nat → LV} {dst : Option Tmp} (x : Operand) {type : TypeId} {pos : String} {after : Array Edge} {guard : Option (Nat × Bool)} {a : Act} {K : LV → LHeap → Prop} {Q : Exit → Act → World → Prop}
    (hfine : ∀ oo ∈ (Op.assign x).operands, fineO oo = true) (h : Rel W keep ρ g w) (ht : TRel ρ g.next tm a.tmps) (hK : opL P (Ok P) tm ⟨dst, .assign x, type, pos, after, guard⟩ g K) :
    Oper.wpIn (wideR ro) 0 P ⟨dst, .assign x, type, pos, after, guard⟩ a w (Next1 W keep ρ g a dst K) Q := by
  have ev : ∀ oo ∈ (Op.assign x).operands, a.eval oo = (evL tm oo).toV ρ ∧ (evL tm oo).ok ρ g.next := fun x hx => ev_val ht x (hfine x hx)
  unfold opL at hK
  simp only [Op.operands] at ev hfine hK
  exact wp_yields (s := pure (a.eval x)) h rfl ⟨by rw [run_pure, (ev x (by simp)).1], (ev x (by simp)).2⟩ hK

theorem os_pick {tm : Nat → LV} {dst : Option Tmp} (c x y : Operand) {type : TypeId} {pos : String} {after : Array Edge} {guard : Option (Nat × Bool)} {a : Act} {K : LV → LHeap → Prop} {Q : Exit → Act → World → Prop}
    (hfine : ∀ oo ∈ (Op.pick c x y).operands, fineO oo = true) (h : Rel W keep ρ g w) (ht : TRel ρ g.next tm a.tmps) (hK : opL P (Ok P) tm ⟨dst, .pick c x y, type, pos, after, guard⟩ g K) :
    Oper.wpIn (wideR ro) 0 P ⟨dst, .pick c x y, type, pos, after, guard⟩ a w (Next1 W keep ρ g a dst K) Q := by
  have ev : ∀ oo ∈ (Op.pick c x y).operands, a.eval oo = (evL tm oo).toV ρ ∧ (evL tm oo).ok ρ g.next := fun x hx => ev_val ht x (hfine x hx)
  unfold opL at hK
  simp only [Op.operands] at ev hfine hK
  obtain ⟨v, hv, hK⟩ := vK_elim hK
  unfold pickL at hv
  have hc := ev c (by simp)
  split at hv
  · rename_i e
    cases hv
    refine wp_yields (s := pure (a.eval x)) h ?_ ⟨by rw [run_pure, (ev x (by simp)).1], (ev x (by simp)).2⟩ hK
    simp only [execOp, hc.1, e, LV.toV]
    rfl
  · rename_i e
    cases hv
    refine wp_yields (s := pure (a.eval y)) h ?_ ⟨by rw [run_pure, (ev y (by simp)).1], (ev y (by simp)).2⟩ hK
    simp only [execOp, hc.1, e, LV.toV]
    rfl
  · cases hv

theorem os_alloc {tm : Nat → LV} {dst : Option Tmp} (t : TypeId) {type : TypeId} {pos : String} {after : Array Edge} {guard : Option (Nat × Bool)} {a : Act} {K : LV → LHeap → Prop} {Q : Exit → Act → World → Prop}
    (hfine : ∀ oo ∈ (Op.alloc t).operands, fineO oo = true) (h : Rel W keep ρ g w) (ht : TRel ρ g.next tm a.tmps) (hK : opL P (Ok P) tm ⟨dst, .alloc t, type, pos, after, guard⟩ g K) :
    Oper.wpIn (wideR ro) 0 P ⟨dst, .alloc t, type, pos, after, guard⟩ a w (Next1 W keep ρ g a dst K) Q := by
  have ev : ∀ oo ∈ (Op.alloc t).operands, a.eval oo = (evL tm oo).toV ρ ∧ (evL tm oo).ok ρ g.next := fun x hx => ev_val ht x (hfine x hx)
  unfold opL at hK
  simp only [Op.operands] at ev hfine hK
  obtain ⟨z, hz, hK⟩ := vK_elim hK
  obtain ⟨v, g', hn, hK⟩ := oK_elim hK
  exact wp_makes rfl (sim_alloc h hz hn) hK

theorem os_box {tm : Nat → LV} {dst : Option Tmp} (t : TypeId) (x : Operand) {type : TypeId} {pos : String} {after : Array Edge} {guard : Option (Nat × Bool)} {a : Act} {K : LV → LHeap → Prop} {Q : Exit → Act → World → Prop}
    (hfine : ∀ oo ∈ (Op.box t x).operands, fineO oo = true) (h : Rel W keep ρ g w) (ht : TRel ρ g.next tm a.tmps) (hK : opL P (Ok P) tm ⟨dst, .box t x, type, pos, after, guard⟩ g K) :
    Oper.wpIn (wideR ro) 0 P ⟨dst, .box t x, type, pos, after, guard⟩ a w (Next1 W keep ρ g a dst K) Q := by
  have ev : ∀ oo ∈ (Op.box t x).operands, a.eval oo = (evL tm oo).toV ρ ∧ (evL tm oo).ok ρ g.next := fun x hx => ev_val ht x (hfine x hx)
  unfold opL at hK
  simp only [Op.operands] at ev hfine hK
  obtain ⟨v, g', hn, hK⟩ := oK_elim hK
  have hx := ev x (by simp)
  refine wp_makes (s := Instr.box t ((evL tm x).toV ρ)) ?_ (sim_box h hn hx.2) hK
  simp only [execOp, hx.1]

theorem os_build {tm : Nat → LV} {dst : Option Tmp} (t : TypeId) (parts : Array (Nat × Operand)) {type : TypeId} {pos : String} {after : Array Edge} {guard : Option (Nat × Bool)} {a : Act} {K : LV → LHeap → Prop} {Q : Exit → Act → World → Prop}
    (hfine : ∀ oo ∈ (Op.build t parts).operands, fineO oo = true) (h : Rel W keep ρ g w) (ht : TRel ρ g.next tm a.tmps) (hK : opL P (Ok P) tm ⟨dst, .build t parts, type, pos, after, guard⟩ g K) :
    Oper.wpIn (wideR ro) 0 P ⟨dst, .build t parts, type, pos, after, guard⟩ a w (Next1 W keep ρ g a dst K) Q := by
  have ev : ∀ oo ∈ (Op.build t parts).operands, a.eval oo = (evL tm oo).toV ρ ∧ (evL tm oo).ok ρ g.next := fun x hx => ev_val ht x (hfine x hx)
  unfold opL at hK
  simp only [Op.operands] at ev hfine hK
  obtain ⟨v, hv, hK⟩ := vK_elim hK
  obtain ⟨p1, p2⟩ := parts_val ht parts.toList (fun x hx => hfine x.2 (List.mem_toArray.2 (List.mem_map.2 ⟨x, hx, rfl⟩)))
  have e : parts.map (fun p => (p.1, a.eval p.2)) = ((parts.toList.map fun p => (p.1, evL tm p.2)).map fun p => (p.1, p.2.toV ρ)).toArray := by
    rw [← p1]; apply Array.ext'; simp
  refine wp_yields (s := Instr.build t ((parts.toList.map fun p => (p.1, evL tm p.2)).map fun p => (p.1, p.2.toV ρ)).toArray) h ?_ (sim_build p2 hv) hK
  rw [← e]
  rfl

theorem os_buildSlice {tm : Nat → LV} {dst : Option Tmp} (t : TypeId) (len : Nat) (parts : Array (Nat × Operand)) {type : TypeId} {pos : String} {after : Array Edge} {guard : Option (Nat × Bool)} {a : Act} {K : LV → LHeap → Prop} {Q : Exit → Act → World → Prop}
    (hfine : ∀ oo ∈ (Op.buildSlice t len parts).operands, fineO oo = true) (h : Rel W keep ρ g w) (ht : TRel ρ g.next tm a.tmps) (hK : opL P (Ok P) tm ⟨dst, .buildSlice t len parts, type, pos, after, guard⟩ g K) :
    Oper.wpIn (wideR ro) 0 P ⟨dst, .buildSlice t len parts, type, pos, after, guard⟩ a w (Next1 W keep ρ g a dst K) Q := by
  have hfine' : ∀ p ∈ parts.toList, fineO p.2 = true := fun p hp => hfine p.2 (by
    unfold Op.operands
    exact List.mem_toArray.2 (List.mem_map.2 ⟨p, hp, rfl⟩))
  clear hfine
  unfold opL at hK
  simp only at hK
  obtain ⟨v, g', hv, hK⟩ := oK_elim hK
  obtain ⟨p1, p2⟩ := parts_val ht parts.toList hfine'
  have e : parts.map (fun p => (p.1, a.eval p.2)) = ((parts.toList.map fun p => (p.1, evL tm p.2)).map fun p => (p.1, p.2.toV ρ)).toArray := by
    rw [← p1]; apply Array.ext'; simp
  have hm := sim_buildSlice (P := P) h p2 hv
  rw [← e] at hm
  exact wp_makes rfl hm hK

theorem os_insert {tm : Nat → LV} {dst : Option Tmp} (t : TypeId) (m k x : Operand) {type : TypeId} {pos : String} {after : Array Edge} {guard : Option (Nat × Bool)} {a : Act} {K : LV → LHeap → Prop} {Q : Exit → Act → World → Prop}
    (hfine : ∀ oo ∈ (Op.insert t m k x).operands, fineO oo = true) (h : Rel W keep ρ g w) (ht : TRel ρ g.next tm a.tmps) (hK : opL P (Ok P) tm ⟨dst, .insert t m k x, type, pos, after, guard⟩ g K) :
    Oper.wpIn (wideR ro) 0 P ⟨dst, .insert t m k x, type, pos, after, guard⟩ a w (Next1 W keep ρ g a dst K) Q := by
  have ev : ∀ oo ∈ (Op.insert t m k x).operands, a.eval oo = (evL tm oo).toV ρ ∧ (evL tm oo).ok ρ g.next := fun x hx => ev_val ht x (hfine x hx)
  unfold opL at hK
  simp only [Op.operands] at ev hfine hK
  obtain ⟨g', hv, hK⟩ := gK_elim hK
  have hm := ev m (by simp); have hk := ev k (by simp); have hx := ev x (by simp)
  refine wp_turns (s := Instr.mapUpdate t ((evL tm m).toV ρ) ((evL tm k).toV ρ) ((evL tm x).toV ρ)) ?_ (sim_mapSet h hk.2 hx.2 hv) hK
  simp only [execOp, hm.1, hk.1, hx.1]

theorem os_load {tm : Nat → LV} {dst : Option Tmp} (t : TypeId) (x : Operand) {type : TypeId} {pos : String} {after : Array Edge} {guard : Option (Nat × Bool)} {a : Act} {K : LV → LHeap → Prop} {Q : Exit → Act → World → Prop}
    (hfine : ∀ oo ∈ (Op.load t x).operands, fineO oo = true) (h : Rel W keep ρ g w) (ht : TRel ρ g.next tm a.tmps) (hK : opL P (Ok P) tm ⟨dst, .load t x, type, pos, after, guard⟩ g K) :
    Oper.wpIn (wideR ro) 0 P ⟨dst, .load t x, type, pos, after, guard⟩ a w (Next1 W keep ρ g a dst K) Q := by
  have ev : ∀ oo ∈ (Op.load t x).operands, a.eval oo = (evL tm oo).toV ρ ∧ (evL tm oo).ok ρ g.next := fun x hx => ev_val ht x (hfine x hx)
  unfold opL at hK
  simp only [Op.operands] at ev hfine hK
  obtain ⟨v, hv, hK⟩ := vK_elim hK
  have hx := ev x (by simp)
  refine wp_yields (s := Instr.loadAt t ((evL tm x).toV ρ)) h ?_ (sim_load h hv) hK
  simp only [execOp, hx.1]

theorem os_store {tm : Nat → LV} {dst : Option Tmp} (t : TypeId) (x y : Operand) {type : TypeId} {pos : String} {after : Array Edge} {guard : Option (Nat × Bool)} {a : Act} {K : LV → LHeap → Prop} {Q : Exit → Act → World → Prop}
    (hfine : ∀ oo ∈ (Op.store t x y).operands, fineO oo = true) (h : Rel W keep ρ g w) (ht : TRel ρ g.next tm a.tmps) (hK : opL P (Ok P) tm ⟨dst, .store t x y, type, pos, after, guard⟩ g K) :
    Oper.wpIn (wideR ro) 0 P ⟨dst, .store t x y, type, pos, after, guard⟩ a w (Next1 W keep ρ g a dst K) Q := by
  have ev : ∀ oo ∈ (Op.store t x y).operands, a.eval oo = (evL tm oo).toV ρ ∧ (evL tm oo).ok ρ g.next := fun x hx => ev_val ht x (hfine x hx)
  unfold opL at hK
  simp only [Op.operands] at ev hfine hK
  obtain ⟨g', hv, hK⟩ := gK_elim hK
  have hx := ev x (by simp); have hy := ev y (by simp)
  refine wp_turns (s := Instr.storeAt t ((evL tm x).toV ρ) ((evL tm y).toV ρ)) ?_ (sim_store h hv hy.2) hK
  simp only [execOp, hx.1, hy.1]

theorem os_nilCheck {tm : Nat → LV} {dst : Option Tmp} (x : Operand) {type : TypeId} {pos : String} {after : Array Edge} {guard : Option (Nat × Bool)} {a : Act} {K : LV → LHeap → Prop} {Q : Exit → Act → World → Prop}
    (hfine : ∀ oo ∈ (Op.nilCheck x).operands, fineO oo = true) (h : Rel W keep ρ g w) (ht : TRel ρ g.next tm a.tmps) (hK : opL P (Ok P) tm ⟨dst, .nilCheck x, type, pos, after, guard⟩ g K) :
    Oper.wpIn (wideR ro) 0 P ⟨dst, .nilCheck x, type, pos, after, guard⟩ a w (Next1 W keep ρ g a dst K) Q := by
  have ev : ∀ oo ∈ (Op.nilCheck x).operands, a.eval oo = (evL tm oo).toV ρ ∧ (evL tm oo).ok ρ g.next := fun x hx => ev_val ht x (hfine x hx)
  unfold opL at hK
  simp only [Op.operands] at ev hfine hK
  obtain ⟨v, hv, hK⟩ := vK_elim hK
  have hx := ev x (by simp)
  obtain ⟨he, hr⟩ := nilCheckP_run (ρ := ρ) (w := w) (e := a.eval) (dst := dst) (y := x) (ty := type) (pos := pos) (after := after) (guard := guard) hv hx.1
  rw [he] at hK
  exact wp_value hr (Post.same h hx.2) hK

theorem os_binOp {tm : Nat → LV} {dst : Option Tmp} (op : BinOp) (t : TypeId) (x y : Operand) (yt : TypeId) {type : TypeId} {pos : String} {after : Array Edge} {guard : Option (Nat × Bool)} {a : Act} {K : LV → LHeap → Prop} {Q : Exit → Act → World → Prop}
    (hfine : ∀ oo ∈ (Op.binOp op t x y yt).operands, fineO oo = true) (h : Rel W keep ρ g w) (ht : TRel ρ g.next tm a.tmps) (hK : opL P (Ok P) tm ⟨dst, .binOp op t x y yt, type, pos, after, guard⟩ g K) :
    Oper.wpIn (wideR ro) 0 P ⟨dst, .binOp op t x y yt, type, pos, after, guard⟩ a w (Next1 W keep ρ g a dst K) Q := by
  have ev : ∀ oo ∈ (Op.binOp op t x y yt).operands, a.eval oo = (evL tm oo).toV ρ ∧ (evL tm oo).ok ρ g.next := fun x hx => ev_val ht x (hfine x hx)
  unfold opL at hK
  simp only [Op.operands] at ev hfine hK
  obtain ⟨v, hv, hK⟩ := vK_elim hK
  have hx := ev x (by simp); have hy := ev y (by simp)
  refine wp_yields (s := do eqGuard op t x y ((evL tm x).toV ρ) ((evL tm y).toV ρ); binOp op t ((evL tm x).toV ρ) ((evL tm y).toV ρ)) h ?_ (sim_bin hv) hK
  simp only [execOp, hx.1, hy.1]

theorem os_unOp {tm : Nat → LV} {dst : Option Tmp} (op : UnOp) (t : TypeId) (x : Operand) {type : TypeId} {pos : String} {after : Array Edge} {guard : Option (Nat × Bool)} {a : Act} {K : LV → LHeap → Prop} {Q : Exit → Act → World → Prop}
    (hfine : ∀ oo ∈ (Op.unOp op t x).operands, fineO oo = true) (h : Rel W keep ρ g w) (ht : TRel ρ g.next tm a.tmps) (hK : opL P (Ok P) tm ⟨dst, .unOp op t x, type, pos, after, guard⟩ g K) :
    Oper.wpIn (wideR ro) 0 P ⟨dst, .unOp op t x, type, pos, after, guard⟩ a w (Next1 W keep ρ g a dst K) Q := by
  have ev : ∀ oo ∈ (Op.unOp op t x).operands, a.eval oo = (evL tm oo).toV ρ ∧ (evL tm oo).ok ρ g.next := fun x hx => ev_val ht x (hfine x hx)
  unfold opL at hK
  simp only [Op.operands] at ev hfine hK
  obtain ⟨v, hv, hK⟩ := vK_elim hK
  have hx := ev x (by simp)
  refine wp_yields (s := Op.unary op ((evL tm x).toV ρ)) h ?_ (sim_un hv _ _ _) hK
  simp only [execOp, hx.1]

theorem os_convert {tm : Nat → LV} {dst : Option Tmp} (s d : TypeId) (x : Operand) {type : TypeId} {pos : String} {after : Array Edge} {guard : Option (Nat × Bool)} {a : Act} {K : LV → LHeap → Prop} {Q : Exit → Act → World → Prop}
    (hfine : ∀ oo ∈ (Op.convert s d x).operands, fineO oo = true) (h : Rel W keep ρ g w) (ht : TRel ρ g.next tm a.tmps) (hK : opL P (Ok P) tm ⟨dst, .convert s d x, type, pos, after, guard⟩ g K) :
    Oper.wpIn (wideR ro) 0 P ⟨dst, .convert s d x, type, pos, after, guard⟩ a w (Next1 W keep ρ g a dst K) Q := by
  have ev : ∀ oo ∈ (Op.convert s d x).operands, a.eval oo = (evL tm oo).toV ρ ∧ (evL tm oo).ok ρ g.next := fun x hx => ev_val ht x (hfine x hx)
  unfold opL at hK
  simp only [Op.operands] at ev hfine hK
  obtain ⟨v, g', hv, hK⟩ := oK_elim hK
  have hx := ev x (by simp)
  refine wp_makes (s := convert s d ((evL tm x).toV ρ)) ?_ (sim_conv h (ev x (by simp)).2 hv) hK
  simp only [execOp, hx.1]

theorem os_makeInterface {tm : Nat → LV} {dst : Option Tmp} (t : TypeId) (x : Operand) {type : TypeId} {pos : String} {after : Array Edge} {guard : Option (Nat × Bool)} {a : Act} {K : LV → LHeap → Prop} {Q : Exit → Act → World → Prop}
    (hfine : ∀ oo ∈ (Op.makeInterface t x).operands, fineO oo = true) (h : Rel W keep ρ g w) (ht : TRel ρ g.next tm a.tmps) (hK : opL P (Ok P) tm ⟨dst, .makeInterface t x, type, pos, after, guard⟩ g K) :
    Oper.wpIn (wideR ro) 0 P ⟨dst, .makeInterface t x, type, pos, after, guard⟩ a w (Next1 W keep ρ g a dst K) Q := by
  have ev : ∀ oo ∈ (Op.makeInterface t x).operands, a.eval oo = (evL tm oo).toV ρ ∧ (evL tm oo).ok ρ g.next := fun x hx => ev_val ht x (hfine x hx)
  unfold opL at hK
  simp only [Op.operands] at ev hfine hK
  obtain ⟨v, hv, hK⟩ := vK_elim hK
  have hx := ev x (by simp)
  refine wp_yields (s := Instr.makeInterface t ((evL tm x).toV ρ)) h ?_ (sim_iface hx.2 hv) hK
  simp only [execOp, hx.1]

theorem os_makeFunc {tm : Nat → LV} {dst : Option Tmp} (fn : Fn) (first caps : Array Operand) {type : TypeId} {pos : String} {after : Array Edge} {guard : Option (Nat × Bool)} {a : Act} {K : LV → LHeap → Prop} {Q : Exit → Act → World → Prop}
    (hfine : ∀ oo ∈ (Op.makeFunc fn first caps).operands, fineO oo = true) (h : Rel W keep ρ g w) (ht : TRel ρ g.next tm a.tmps) (hK : opL P (Ok P) tm ⟨dst, .makeFunc fn first caps, type, pos, after, guard⟩ g K) :
    Oper.wpIn (wideR ro) 0 P ⟨dst, .makeFunc fn first caps, type, pos, after, guard⟩ a w (Next1 W keep ρ g a dst K) Q := by
  have ev : ∀ oo ∈ (Op.makeFunc fn first caps).operands, a.eval oo = (evL tm oo).toV ρ ∧ (evL tm oo).ok ρ g.next := fun x hx => ev_val ht x (hfine x hx)
  unfold opL at hK
  simp only [Op.operands] at ev hfine hK
  obtain ⟨f1, f2⟩ := evs_val ht first.toList (fun x hx => hfine x (by simp; exact .inl (by simpa using hx)))
  obtain ⟨c1, c2⟩ := evs_val ht caps.toList (fun x hx => hfine x (by simp; exact .inr (by simpa using hx)))
  refine wp_yields (s := Instr.makeFunc fn (first.map a.eval) (caps.map a.eval)) h rfl ⟨?_, ?_⟩ hK
  · simp only [Instr.makeFunc, run_pure, LV.toV, ← f1, ← c1]
    congr 2 <;> apply Array.ext' <;> simp
  · simp only [LV.ok]; exact ⟨f2, c2⟩

theorem os_makeMap {tm : Nat → LV} {dst : Option Tmp} (t : TypeId) (r : Option Operand) {type : TypeId} {pos : String} {after : Array Edge} {guard : Option (Nat × Bool)} {a : Act} {K : LV → LHeap → Prop} {Q : Exit → Act → World → Prop}
    (hfine : ∀ oo ∈ (Op.makeMap t r).operands, fineO oo = true) (h : Rel W keep ρ g w) (ht : TRel ρ g.next tm a.tmps) (hK : opL P (Ok P) tm ⟨dst, .makeMap t r, type, pos, after, guard⟩ g K) :
    Oper.wpIn (wideR ro) 0 P ⟨dst, .makeMap t r, type, pos, after, guard⟩ a w (Next1 W keep ρ g a dst K) Q := by
  have ev : ∀ oo ∈ (Op.makeMap t r).operands, a.eval oo = (evL tm oo).toV ρ ∧ (evL tm oo).ok ρ g.next := fun x hx => ev_val ht x (hfine x hx)
  unfold opL at hK
  simp only [Op.operands] at ev hfine hK
  cases r with
  | some r => exact hK.elim
  | none =>
    refine wp_makes (v := .map g.next) (s := Instr.makeMap t none) rfl ⟨ρ.put g.next w.heap.size 0 0, { w with heap := w.heap.push (.map #[] 0) }, ?_, Ren.put_ext _ _ _ _ _, ?_, ?_, ?_⟩ hK
    · simp [Instr.makeMap, newObj, Sem.run, LV.toV]
    · exact h.new ⟨by simp, by simp⟩
    · simp [LV.ok]
    · simp

theorem os_makeSlice {tm : Nat → LV} {dst : Option Tmp} (t : TypeId) (l c : Operand) {type : TypeId} {pos : String} {after : Array Edge} {guard : Option (Nat × Bool)} {a : Act} {K : LV → LHeap → Prop} {Q : Exit → Act → World → Prop}
    (hfine : ∀ oo ∈ (Op.makeSlice t l c).operands, fineO oo = true) (h : Rel W keep ρ g w) (ht : TRel ρ g.next tm a.tmps) (hK : opL P (Ok P) tm ⟨dst, .makeSlice t l c, type, pos, after, guard⟩ g K) :
    Oper.wpIn (wideR ro) 0 P ⟨dst, .makeSlice t l c, type, pos, after, guard⟩ a w (Next1 W keep ρ g a dst K) Q := by
  have ev : ∀ oo ∈ (Op.makeSlice t l c).operands, a.eval oo = (evL tm oo).toV ρ ∧ (evL tm oo).ok ρ g.next := fun x hx => ev_val ht x (hfine x hx)
  unfold opL at hK
  simp only [Op.operands] at ev hfine hK
  obtain ⟨v, g', hv, hK⟩ := oK_elim hK
  have hx := ev l (by simp); have hy := ev c (by simp)
  refine wp_makes (s := Instr.makeSlice t ((evL tm l).toV ρ) ((evL tm c).toV ρ)) ?_ (sim_makeSlice h hv) hK
  simp only [execOp, hx.1, hy.1]

theorem os_slice {tm : Nat → LV} {dst : Option Tmp} (t : TypeId) (x : Operand) (lo hi mx : Option Operand) {type : TypeId} {pos : String} {after : Array Edge} {guard : Option (Nat × Bool)} {a : Act} {K : LV → LHeap → Prop} {Q : Exit → Act → World → Prop}
    (hfine : ∀ oo ∈ (Op.slice t x lo hi mx).operands, fineO oo = true) (h : Rel W keep ρ g w) (ht : TRel ρ g.next tm a.tmps) (hK : opL P (Ok P) tm ⟨dst, .slice t x lo hi mx, type, pos, after, guard⟩ g K) :
    Oper.wpIn (wideR ro) 0 P ⟨dst, .slice t x lo hi mx, type, pos, after, guard⟩ a w (Next1 W keep ρ g a dst K) Q := by
  have ev : ∀ oo ∈ (Op.slice t x lo hi mx).operands, a.eval oo = (evL tm oo).toV ρ ∧ (evL tm oo).ok ρ g.next := fun x hx => ev_val ht x (hfine x hx)
  unfold opL at hK
  simp only [Op.operands] at ev hfine hK
  obtain ⟨v, hv, hK⟩ := vK_elim hK
  have hx := ev x (by simp)
  have hop : ∀ (y : Option Operand), (∀ z, y = some z → z ∈ (#[x] ++ lo.toArray ++ hi.toArray ++ mx.toArray : Array Operand)) → y.map a.eval = (y.map (evL tm)).map (LV.toV ρ) := by
    intro y hy
    cases y with
    | none => rfl
    | some z => simp only [Option.map_some, (ev z (hy z rfl)).1]
  refine wp_yields (s := Instr.sliceAt t ((evL tm x).toV ρ) ((lo.map (evL tm)).map (LV.toV ρ)) ((hi.map (evL tm)).map (LV.toV ρ)) ((mx.map (evL tm)).map (LV.toV ρ))) h ?_ (sim_cut hx.2 (limL_ok h hx.2) hv) hK
  simp only [execOp, hx.1]
  rw [hop lo (fun z hz => by subst hz; simp), hop hi (fun z hz => by subst hz; simp), hop mx (fun z hz => by subst hz; simp)]

theorem os_fieldAddr {tm : Nat → LV} {dst : Option Tmp} (t : TypeId) (x : Operand) (f : Nat) {type : TypeId} {pos : String} {after : Array Edge} {guard : Option (Nat × Bool)} {a : Act} {K : LV → LHeap → Prop} {Q : Exit → Act → World → Prop}
    (hfine : ∀ oo ∈ (Op.fieldAddr t x f).operands, fineO oo = true) (h : Rel W keep ρ g w) (ht : TRel ρ g.next tm a.tmps) (hK : opL P (Ok P) tm ⟨dst, .fieldAddr t x f, type, pos, after, guard⟩ g K) :
    Oper.wpIn (wideR ro) 0 P ⟨dst, .fieldAddr t x f, type, pos, after, guard⟩ a w (Next1 W keep ρ g a dst K) Q := by
  have ev : ∀ oo ∈ (Op.fieldAddr t x f).operands, a.eval oo = (evL tm oo).toV ρ ∧ (evL tm oo).ok ρ g.next := fun x hx => ev_val ht x (hfine x hx)
  unfold opL at hK
  simp only [Op.operands] at ev hfine hK
  obtain ⟨v, hv, hK⟩ := vK_elim hK
  have hx := ev x (by simp)
  refine wp_yields (s := Instr.fieldAt t ((evL tm x).toV ρ) f) h ?_ (sim_fieldAddr hx.2 hv) hK
  simp only [execOp, hx.1]

theorem os_field {tm : Nat → LV} {dst : Option Tmp} (t : TypeId) (x : Operand) (f : Nat) {type : TypeId} {pos : String} {after : Array Edge} {guard : Option (Nat × Bool)} {a : Act} {K : LV → LHeap → Prop} {Q : Exit → Act → World → Prop}
    (hfine : ∀ oo ∈ (Op.field t x f).operands, fineO oo = true) (h : Rel W keep ρ g w) (ht : TRel ρ g.next tm a.tmps) (hK : opL P (Ok P) tm ⟨dst, .field t x f, type, pos, after, guard⟩ g K) :
    Oper.wpIn (wideR ro) 0 P ⟨dst, .field t x f, type, pos, after, guard⟩ a w (Next1 W keep ρ g a dst K) Q := by
  have ev : ∀ oo ∈ (Op.field t x f).operands, a.eval oo = (evL tm oo).toV ρ ∧ (evL tm oo).ok ρ g.next := fun x hx => ev_val ht x (hfine x hx)
  unfold opL at hK
  simp only [Op.operands] at ev hfine hK
  obtain ⟨v, hv, hK⟩ := vK_elim hK
  have hx := ev x (by simp)
  refine wp_yields (s := Instr.field t ((evL tm x).toV ρ) f) h ?_ (sim_field hx.2 hv) hK
  simp only [execOp, hx.1]

theorem os_indexAddr {tm : Nat → LV} {dst : Option Tmp} (t : TypeId) (x ix : Operand) {type : TypeId} {pos : String} {after : Array Edge} {guard : Option (Nat × Bool)} {a : Act} {K : LV → LHeap → Prop} {Q : Exit → Act → World → Prop}
    (hfine : ∀ oo ∈ (Op.indexAddr t x ix).operands, fineO oo = true) (h : Rel W keep ρ g w) (ht : TRel ρ g.next tm a.tmps) (hK : opL P (Ok P) tm ⟨dst, .indexAddr t x ix, type, pos, after, guard⟩ g K) :
    Oper.wpIn (wideR ro) 0 P ⟨dst, .indexAddr t x ix, type, pos, after, guard⟩ a w (Next1 W keep ρ g a dst K) Q := by
  have ev : ∀ oo ∈ (Op.indexAddr t x ix).operands, a.eval oo = (evL tm oo).toV ρ ∧ (evL tm oo).ok ρ g.next := fun x hx => ev_val ht x (hfine x hx)
  unfold opL at hK
  simp only [Op.operands] at ev hfine hK
  obtain ⟨v, hv, hK⟩ := vK_elim hK
  have hx := ev x (by simp); have hy := ev ix (by simp)
  refine wp_yields (s := Instr.indexAt t ((evL tm x).toV ρ) ((evL tm ix).toV ρ)) h ?_ (sim_indexAddr hx.2 hv) hK
  simp only [execOp, hx.1, hy.1]

theorem os_index {tm : Nat → LV} {dst : Option Tmp} (t : TypeId) (x ix : Operand) {type : TypeId} {pos : String} {after : Array Edge} {guard : Option (Nat × Bool)} {a : Act} {K : LV → LHeap → Prop} {Q : Exit → Act → World → Prop}
    (hfine : ∀ oo ∈ (Op.index t x ix).operands, fineO oo = true) (h : Rel W keep ρ g w) (ht : TRel ρ g.next tm a.tmps) (hK : opL P (Ok P) tm ⟨dst, .index t x ix, type, pos, after, guard⟩ g K) :
    Oper.wpIn (wideR ro) 0 P ⟨dst, .index t x ix, type, pos, after, guard⟩ a w (Next1 W keep ρ g a dst K) Q := by
  have ev : ∀ oo ∈ (Op.index t x ix).operands, a.eval oo = (evL tm oo).toV ρ ∧ (evL tm oo).ok ρ g.next := fun x hx => ev_val ht x (hfine x hx)
  unfold opL at hK
  simp only [Op.operands] at ev hfine hK
  obtain ⟨v, hv, hK⟩ := vK_elim hK
  have hx := ev x (by simp); have hy := ev ix (by simp)
  refine wp_yields (s := Instr.index t ((evL tm x).toV ρ) ((evL tm ix).toV ρ)) h ?_ (sim_index hx.2 hv) hK
  simp only [execOp, hx.1, hy.1]

theorem os_lookup {tm : Nat → LV} {dst : Option Tmp} (t : TypeId) (x k : Operand) (ok : Bool) {type : TypeId} {pos : String} {after : Array Edge} {guard : Option (Nat × Bool)} {a : Act} {K : LV → LHeap → Prop} {Q : Exit → Act → World → Prop}
    (hfine : ∀ oo ∈ (Op.lookup t x k ok).operands, fineO oo = true) (h : Rel W keep ρ g w) (ht : TRel ρ g.next tm a.tmps) (hK : opL P (Ok P) tm ⟨dst, .lookup t x k ok, type, pos, after, guard⟩ g K) :
    Oper.wpIn (wideR ro) 0 P ⟨dst, .lookup t x k ok, type, pos, after, guard⟩ a w (Next1 W keep ρ g a dst K) Q := by
  have ev : ∀ oo ∈ (Op.lookup t x k ok).operands, a.eval oo = (evL tm oo).toV ρ ∧ (evL tm oo).ok ρ g.next := fun x hx => ev_val ht x (hfine x hx)
  unfold opL at hK
  simp only [Op.operands] at ev hfine hK
  obtain ⟨v, hv, hK⟩ := vK_elim hK
  have hx := ev x (by simp); have hy := ev k (by simp)
  refine wp_yields (s := Instr.lookup t ((evL tm x).toV ρ) ((evL tm k).toV ρ) ok) h ?_ (sim_lookup h hv) hK
  simp only [execOp, hx.1, hy.1]

theorem os_mapUpdate {tm : Nat → LV} {dst : Option Tmp} (t : TypeId) (m k x : Operand) {type : TypeId} {pos : String} {after : Array Edge} {guard : Option (Nat × Bool)} {a : Act} {K : LV → LHeap → Prop} {Q : Exit → Act → World → Prop}
    (hfine : ∀ oo ∈ (Op.mapUpdate t m k x).operands, fineO oo = true) (h : Rel W keep ρ g w) (ht : TRel ρ g.next tm a.tmps) (hK : opL P (Ok P) tm ⟨dst, .mapUpdate t m k x, type, pos, after, guard⟩ g K) :
    Oper.wpIn (wideR ro) 0 P ⟨dst, .mapUpdate t m k x, type, pos, after, guard⟩ a w (Next1 W keep ρ g a dst K) Q := by
  have ev : ∀ oo ∈ (Op.mapUpdate t m k x).operands, a.eval oo = (evL tm oo).toV ρ ∧ (evL tm oo).ok ρ g.next := fun x hx => ev_val ht x (hfine x hx)
  unfold opL at hK
  simp only [Op.operands] at ev hfine hK
  obtain ⟨g', hv, hK⟩ := gK_elim hK
  have hm := ev m (by simp); have hk := ev k (by simp); have hx := ev x (by simp)
  refine wp_turns (s := Instr.mapUpdate t ((evL tm m).toV ρ) ((evL tm k).toV ρ) ((evL tm x).toV ρ)) ?_ (sim_mapSet h hk.2 hx.2 hv) hK
  simp only [execOp, hm.1, hk.1, hx.1]

theorem os_mapEntry {tm : Nat → LV} {dst : Option Tmp} (t : TypeId) (m k : Operand) {type : TypeId} {pos : String} {after : Array Edge} {guard : Option (Nat × Bool)} {a : Act} {K : LV → LHeap → Prop} {Q : Exit → Act → World → Prop}
    (hfine : ∀ oo ∈ (Op.mapEntry t m k).operands, fineO oo = true) (h : Rel W keep ρ g w) (ht : TRel ρ g.next tm a.tmps) (hK : opL P (Ok P) tm ⟨dst, .mapEntry t m k, type, pos, after, guard⟩ g K) :
    Oper.wpIn (wideR ro) 0 P ⟨dst, .mapEntry t m k, type, pos, after, guard⟩ a w (Next1 W keep ρ g a dst K) Q := by
  have ev : ∀ oo ∈ (Op.mapEntry t m k).operands, a.eval oo = (evL tm oo).toV ρ ∧ (evL tm oo).ok ρ g.next := fun x hx => ev_val ht x (hfine x hx)
  unfold opL at hK
  simp only [Op.operands] at ev hfine hK
  obtain ⟨v, g', hv, hK⟩ := oK_elim hK
  have hm := ev m (by simp); have hk := ev k (by simp)
  refine wp_makes (s := Instr.mapEntry t ((evL tm m).toV ρ) ((evL tm k).toV ρ)) ?_ (sim_mapEntry h hk.2 hv) hK
  simp only [execOp, hm.1, hk.1]

theorem os_entryStore {tm : Nat → LV} {dst : Option Tmp} (t : TypeId) (m s x : Operand) {type : TypeId} {pos : String} {after : Array Edge} {guard : Option (Nat × Bool)} {a : Act} {K : LV → LHeap → Prop} {Q : Exit → Act → World → Prop}
    (hfine : ∀ oo ∈ (Op.entryStore t m s x).operands, fineO oo = true) (h : Rel W keep ρ g w) (ht : TRel ρ g.next tm a.tmps) (hK : opL P (Ok P) tm ⟨dst, .entryStore t m s x, type, pos, after, guard⟩ g K) :
    Oper.wpIn (wideR ro) 0 P ⟨dst, .entryStore t m s x, type, pos, after, guard⟩ a w (Next1 W keep ρ g a dst K) Q := by
  have ev : ∀ oo ∈ (Op.entryStore t m s x).operands, a.eval oo = (evL tm oo).toV ρ ∧ (evL tm oo).ok ρ g.next := fun x hx => ev_val ht x (hfine x hx)
  unfold opL at hK
  simp only [Op.operands] at ev hfine hK
  obtain ⟨g', hv, hK⟩ := gK_elim hK
  have hm := ev m (by simp); have hs := ev s (by simp); have hx := ev x (by simp)
  refine wp_turns (s := Instr.entryStore t ((evL tm m).toV ρ) ((evL tm s).toV ρ) ((evL tm x).toV ρ)) ?_ (sim_entryStore h hx.2 hv) hK
  simp only [execOp, hm.1, hs.1, hx.1]

theorem os_range {tm : Nat → LV} {dst : Option Tmp} (t : TypeId) (x : Operand) {type : TypeId} {pos : String} {after : Array Edge} {guard : Option (Nat × Bool)} {a : Act} {K : LV → LHeap → Prop} {Q : Exit → Act → World → Prop}
    (hfine : ∀ oo ∈ (Op.range t x).operands, fineO oo = true) (h : Rel W keep ρ g w) (ht : TRel ρ g.next tm a.tmps) (hK : opL P (Ok P) tm ⟨dst, .range t x, type, pos, after, guard⟩ g K) :
    Oper.wpIn (wideR ro) 0 P ⟨dst, .range t x, type, pos, after, guard⟩ a w (Next1 W keep ρ g a dst K) Q := by
  have ev : ∀ oo ∈ (Op.range t x).operands, a.eval oo = (evL tm oo).toV ρ ∧ (evL tm oo).ok ρ g.next := fun x hx => ev_val ht x (hfine x hx)
  unfold opL at hK
  simp only [Op.operands] at ev hfine hK
  obtain ⟨v, g', hv, hK⟩ := oK_elim hK
  have hx := ev x (by simp)
  refine wp_makes (s := Instr.range t ((evL tm x).toV ρ)) ?_ (sim_range h hv) hK
  simp only [execOp, hx.1]

theorem os_next {tm : Nat → LV} {dst : Option Tmp} (it : Operand) (isS : Bool) {type : TypeId} {pos : String} {after : Array Edge} {guard : Option (Nat × Bool)} {a : Act} {K : LV → LHeap → Prop} {Q : Exit → Act → World → Prop}
    (hfine : ∀ oo ∈ (Op.next it isS).operands, fineO oo = true) (h : Rel W keep ρ g w) (ht : TRel ρ g.next tm a.tmps) (hK : opL P (Ok P) tm ⟨dst, .next it isS, type, pos, after, guard⟩ g K) :
    Oper.wpIn (wideR ro) 0 P ⟨dst, .next it isS, type, pos, after, guard⟩ a w (Next1 W keep ρ g a dst K) Q := by
  have ev : ∀ oo ∈ (Op.next it isS).operands, a.eval oo = (evL tm oo).toV ρ ∧ (evL tm oo).ok ρ g.next := fun x hx => ev_val ht x (hfine x hx)
  unfold opL at hK
  simp only [Op.operands] at ev hfine hK
  have hx := ev it (by simp)
  cases isS with
  | true =>
    obtain ⟨v, g', hv, hK⟩ := oK_elim hK
    refine wp_makes (s := Instr.next ((evL tm it).toV ρ) true type) ?_ (sim_nextStr h hv) hK
    simp only [execOp, hx.1]
  | false =>
    obtain ⟨v, g', ρ', w', r1, r2, r3⟩ := sim_nextMap (P := P) (ty := type) h hK
    refine wp_value ?_ r2 r3
    have : execOp a.eval ⟨dst, .next it false, type, pos, after, guard⟩ = (do pure (.value (← Instr.next ((evL tm it).toV ρ) false type)) : Sem Next) := by simp only [execOp, hx.1]
    rw [this, run_bind_ok r1, run_pure]

theorem os_entry {tm : Nat → LV} {dst : Option Tmp} (it : Operand) {type : TypeId} {pos : String} {after : Array Edge} {guard : Option (Nat × Bool)} {a : Act} {K : LV → LHeap → Prop} {Q : Exit → Act → World → Prop}
    (hfine : ∀ oo ∈ (Op.entry it).operands, fineO oo = true) (h : Rel W keep ρ g w) (ht : TRel ρ g.next tm a.tmps) (hK : opL P (Ok P) tm ⟨dst, .entry it, type, pos, after, guard⟩ g K) :
    Oper.wpIn (wideR ro) 0 P ⟨dst, .entry it, type, pos, after, guard⟩ a w (Next1 W keep ρ g a dst K) Q := by
  have ev : ∀ oo ∈ (Op.entry it).operands, a.eval oo = (evL tm oo).toV ρ ∧ (evL tm oo).ok ρ g.next := fun x hx => ev_val ht x (hfine x hx)
  unfold opL at hK
  simp only [Op.operands] at ev hfine hK
  obtain ⟨v, hv, hK⟩ := vK_elim hK
  have hx := ev it (by simp)
  refine wp_yields (s := Instr.entry ((evL tm it).toV ρ)) h ?_ (sim_entry h hv) hK
  simp only [execOp, hx.1]

theorem os_typeAssert {tm : Nat → LV} {dst : Option Tmp} (x : Operand) (xt t : TypeId) (ok : Bool) {type : TypeId} {pos : String} {after : Array Edge} {guard : Option (Nat × Bool)} {a : Act} {K : LV → LHeap → Prop} {Q : Exit → Act → World → Prop}
    (hfine : ∀ oo ∈ (Op.typeAssert x xt t ok).operands, fineO oo = true) (h : Rel W keep ρ g w) (ht : TRel ρ g.next tm a.tmps) (hK : opL P (Ok P) tm ⟨dst, .typeAssert x xt t ok, type, pos, after, guard⟩ g K) :
    Oper.wpIn (wideR ro) 0 P ⟨dst, .typeAssert x xt t ok, type, pos, after, guard⟩ a w (Next1 W keep ρ g a dst K) Q := by
  have ev : ∀ oo ∈ (Op.typeAssert x xt t ok).operands, a.eval oo = (evL tm oo).toV ρ ∧ (evL tm oo).ok ρ g.next := fun x hx => ev_val ht x (hfine x hx)
  unfold opL at hK
  simp only [Op.operands] at ev hfine hK
  obtain ⟨v, hv, hK⟩ := vK_elim hK
  have hx := ev x (by simp)
  refine wp_yields (s := Instr.typeAssert ((evL tm x).toV ρ) xt t ok) h ?_ (sim_assert hx.2 hv) hK
  simp only [execOp, hx.1]

theorem os_extract {tm : Nat → LV} {dst : Option Tmp} (x : Operand) (i : Nat) {type : TypeId} {pos : String} {after : Array Edge} {guard : Option (Nat × Bool)} {a : Act} {K : LV → LHeap → Prop} {Q : Exit → Act → World → Prop}
    (hfine : ∀ oo ∈ (Op.extract x i).operands, fineO oo = true) (h : Rel W keep ρ g w) (ht : TRel ρ g.next tm a.tmps) (hK : opL P (Ok P) tm ⟨dst, .extract x i, type, pos, after, guard⟩ g K) :
    Oper.wpIn (wideR ro) 0 P ⟨dst, .extract x i, type, pos, after, guard⟩ a w (Next1 W keep ρ g a dst K) Q := by
  have ev : ∀ oo ∈ (Op.extract x i).operands, a.eval oo = (evL tm oo).toV ρ ∧ (evL tm oo).ok ρ g.next := fun x hx => ev_val ht x (hfine x hx)
  unfold opL at hK
  simp only [Op.operands] at ev hfine hK
  obtain ⟨v, hv, hK⟩ := vK_elim hK
  have hx := ev x (by simp)
  refine wp_yields (s := Instr.extract ((evL tm x).toV ρ) i) h ?_ (sim_extract hx.2 hv) hK
  simp only [execOp, hx.1]

theorem idxB_spec (c : UInt8) : ∀ (l : List UInt8) (n : Nat), idxB c l n = if Lib.indexByte l c = -1 then -1 else Lib.indexByte l c + n
  | [], n => by simp [idxB, Lib.indexByte]
  | b :: l, n => by
    unfold idxB Lib.indexByte
    by_cases hb : (b == c) = true
    · rw [if_pos hb, if_pos hb]; simp
    · rw [if_neg hb, if_neg hb, idxB_spec c l (n + 1)]
      have hge := Lib.indexByte_ge l c
      by_cases h1 : Lib.indexByte l c = -1
      · simp [h1]
      · have h2 : (Lib.indexByte l c == -1) = false := by simpa using h1
        rw [if_neg h1, h2]
        simp only [Bool.false_eq_true, if_false]
        rw [if_neg (by omega)]
        omega
theorem ext_at {fn : Func} {e : Array Value → Sem Value} {name : String} (hn : fn.name = name) (ho : fn.origin = "") (h1 : (Extern.allGenericRows.lookup name).isNone = true) (h2 : (Extern.allTypedRows.lookup name).isNone = true) (h3 : Extern.allRows.lookup name = some e)
    (h4 : (Extern.allNextRows.lookup name).isNone = true) (h5 : (Extern.allNextRows.lookup "").isNone = true) : Extern.findNext fn = none ∧ Extern.find fn = some e := by
  rw [Option.isNone_iff_eq_none] at h1 h2 h4 h5
  constructor
  · simp only [Extern.findNext, hn, ho, h4, h5]; rfl
  · simp only [Extern.find, hn, ho, h1, h2, h3]; rfl
set_option maxRecDepth 100000 in
theorem ext_spec {f : FuncId} {args : List LV} {v : LV} (h : extL P f args = some v) : (callFunc f (toVs ρ args).toArray).run P w = .ok (.value (v.toV ρ)) w ∧ ∀ n, v.ok ρ n := by
  unfold extL at h
  split at h
  · rename_i fn hf
    split at h
    · cases h
    · rename_i hb
      split at h
      · rename_i ho
        split at h
        · rename_i s c
          split at h
          · rename_i hn
            cases h
            refine ⟨?_, fun n => by simp [LV.ok]⟩
            obtain ⟨e1, e2⟩ := ext_at (e := Extern.BytealgIndexByte.indexByte) hn ho (by kernel_rfl) (by kernel_rfl) (by kernel_rfl) (by kernel_rfl) (by kernel_rfl)
            rw [run_callFunc_extern hf (by rw [hn]; decide +kernel) (by rw [hb]; rfl) e1 e2]
            simp only [toVs, LV.toV]
            rw [Lib.run_indexByteString]
            simp only [Result.andThen, idxB_spec]
            by_cases h1 : Lib.indexByte s c.toNat.toUInt8 = -1 <;> simp [h1]
          · split at h
            · rename_i hn
              cases h
              refine ⟨?_, fun n => by simp [LV.ok]⟩
              obtain ⟨e1, e2⟩ := ext_at (e := Extern.BytealgCount.count) hn ho (by kernel_rfl) (by kernel_rfl) (by kernel_rfl) (by kernel_rfl) (by kernel_rfl)
              rw [run_callFunc_extern hf (by rw [hn]; decide +kernel) (by rw [hb]; rfl) e1 e2]
              simp only [toVs, LV.toV]
              rw [Lib.run_countString]
              rfl
            · cases h
        · cases h
      · cases h
  · cases h
theorem os_call {tm : Nat → LV} {dst : Option Tmp} (c : Call) {type : TypeId} {pos : String} {after : Array Edge} {guard : Option (Nat × Bool)} {a : Act} {K : LV → LHeap → Prop} {Q : Exit → Act → World → Prop}
    (hfine : ∀ oo ∈ (Op.call c).operands, fineO oo = true) (h : Rel W keep ρ g w) (ht : TRel ρ g.next tm a.tmps) (hK : opL P (Ok P) tm ⟨dst, .call c, type, pos, after, guard⟩ g K) :
    Oper.wpIn (wideR ro) 0 P ⟨dst, .call c, type, pos, after, guard⟩ a w (Next1 W keep ρ g a dst K) Q := by
  have ev : ∀ oo ∈ (Op.call c).operands, a.eval oo = (evL tm oo).toV ρ ∧ (evL tm oo).ok ρ g.next := fun x hx => ev_val ht x (hfine x hx)
  unfold opL at hK
  simp only [Op.operands] at ev hfine hK
  obtain ⟨callee, args, argTypes⟩ := c
  have hargs : ∀ x ∈ args.toList, fineO x = true := fun x hx => hfine x (by
    have : x ∈ args := by simpa using hx
    cases callee <;> simp [Call.operands, this])
  obtain ⟨a1, a2⟩ := evs_val ht args.toList hargs
  have a1' : args.map a.eval = (toVs ρ (args.toList.map (evL tm))).toArray := by rw [← a1]; apply Array.ext'; simp
  simp only at hK
  cases callee with
  | builtin b =>
    simp only at hK
    obtain ⟨v, g', hv, hK⟩ := oK_elim hK
    obtain ⟨ρ', w', r1, r2⟩ := sim_builtin (P := P) (ty := type) (cs := args.map fun | .const _ => true | _ => false) h a2 hv
    refine wp_value ?_ r2 hK
    have : (execOp a.eval ⟨dst, .call ⟨.builtin b, args, argTypes⟩, type, pos, after, guard⟩).run P w = .ok (.value (v.toV ρ')) w' := by
      simp only [execOp, resolve]
      rw [run_bind_ok (run_pure P _ w)]
      simp only [invoke]
      rw [a1']
      exact r1
    exact this
  | value f =>
    simp only at hK
    have hx := ev f (by simp [Call.operands])
    unfold callV at hK
    split at hK
    · rename_i fid first caps e
      have hfo := hx.2
      rw [e] at hfo
      simp only [LV.ok] at hfo
      have hrun : (execOp a.eval ⟨dst, .call ⟨.value f, args, argTypes⟩, type, pos, after, guard⟩).run P w = (callFunc fid (toVs ρ (first ++ args.toList.map (evL tm) ++ caps)).toArray).run P w := by
        simp only [execOp, resolve, hx.1, e, LV.toV, Deferred.ofValue]
        rw [run_bind_ok (run_pure P _ w)]
        simp only [invoke]
        rw [a1', toVs_append, toVs_append]
        simp
      split at hK
      · rename_i v hext
        obtain ⟨r1, r2⟩ := ext_spec (ρ := ρ) (w := w) hext
        exact wp_value (by rw [hrun, r1]) (Post.same h (r2 _)) hK
      · exact wp_call h (oks_append.2 ⟨oks_append.2 ⟨hfo.1, a2⟩, hfo.2⟩) hK hrun
    · rename_i name t v first caps e
      split at hK
      · rename_i f hm
        have hfo := hx.2
        rw [e] at hfo
        simp only [LV.ok] at hfo
        obtain ⟨⟨hvo, hfi⟩, _⟩ := hfo
        have hvo' := hvo
        simp only [LV.ok] at hvo'
        refine wp_call (args := v :: (first ++ args.toList.map (evL tm))) h ⟨hvo', oks_append.2 ⟨hfi, a2⟩⟩ hK ?_
        simp only [execOp, resolve, hx.1, e, LV.toV, Deferred.ofValue]
        rw [run_bind_ok (run_pure P _ w)]
        simp only [invoke, a1', toVs, LV.toV]
        have hargs0 : ((Value.iface t (v.toV ρ) :: toVs ρ first).toArray ++ (toVs ρ (args.toList.map (evL tm))).toArray)[0]? = some (.iface t (v.toV ρ)) := by simp
        have hext : ((Value.iface t (v.toV ρ) :: toVs ρ first).toArray ++ (toVs ρ (args.toList.map (evL tm))).toArray).extract 1 ((Value.iface t (v.toV ρ) :: toVs ρ first).toArray ++ (toVs ρ (args.toList.map (evL tm))).toArray).size = (toVs ρ (first ++ args.toList.map (evL tm))).toArray := by
          apply Array.ext'
          simp [toVs_append]
          rw [List.take_of_length_le (by simp)]
        simp only [hargs0, hext, callMethod]
        rw [run_bind_ok (run_program P w)]
        rw [run_bind_ok (method_run hm w (v.toV ρ))]
        simp
      · exact hK.elim
    · rename_i l e
      have hlo := hx.2
      rw [e] at hlo
      refine wp_round h a2 hlo hK ?_
      simp only [execOp, resolve, hx.1, e, LV.toV, Deferred.ofValue]
      rw [run_bind_ok (run_pure P _ w)]
      simp only [invoke]
      rw [a1']
      simp
    · exact hK.elim
  | invoke r name =>
    simp only at hK
    have hx := ev r (by simp [Call.operands])
    split at hK
    · rename_i t v e
      split at hK
      · rename_i f hm
        have hvo := hx.2
        rw [e] at hvo
        simp only [LV.ok] at hvo
        refine wp_call (args := v :: args.toList.map (evL tm)) h ⟨hvo, a2⟩ hK ?_
        unfold methodL at hm
        split at hm
        · rename_i i el hi hd
          split at hm
          · rename_i m hfind
            split at hm
            · rename_i hpath
              split at hm
              · rename_i fid hmf
                cases hm
                simp only [execOp, resolve, hx.1, e, LV.toV]
                rw [run_bind_ok (run_pure P _ w)]
                simp only [invoke, a1']
                have hargs0 : (#[Value.iface t (v.toV ρ)] ++ (toVs ρ (args.toList.map (evL tm))).toArray)[0]? = some (.iface t (v.toV ρ)) := by simp
                have hext : (#[Value.iface t (v.toV ρ)] ++ (toVs ρ (args.toList.map (evL tm))).toArray).extract 1 (#[Value.iface t (v.toV ρ)] ++ (toVs ρ (args.toList.map (evL tm))).toArray).size = (toVs ρ (args.toList.map (evL tm))).toArray := by
                  apply Array.ext'; simp
                simp only [hargs0, hext, callMethod]
                rw [run_bind_ok (run_program P w)]
                have hmeth : (method (P.types.size + Made.depth) t (v.toV ρ) name).run P w = .ok (f, v.toV ρ) w := by
                  have hdep : 1 ≤ Made.depth := by decide
                  have hd' : ∃ k, P.types.size + Made.depth = k + 1 := ⟨P.types.size + Made.depth - 1, by omega⟩
                  obtain ⟨k, hk⟩ := hd'
                  rw [hk]
                  simp only [method]
                  rw [run_bind_ok (run_typeInfo hi w)]
                  simp only [hfind]
                  have hp0 : m.path.toList = [] := by simpa using hpath
                  rw [hp0]
                  simp only [follow]
                  rw [run_bind_ok (run_pure P _ w)]
                  simp only [hmf]
                  have hr : ∀ s : Option String, (receiverAt t (.val (v.toV ρ)) true s).run P w = .ok (v.toV ρ) w := by
                    intro s
                    simp only [receiverAt]
                    rw [run_bind_ok (run_underlying' hd w)]
                    rfl
                  rw [run_bind_ok (hr _)]
                  rfl
                rw [run_bind_ok hmeth]
                simp [toVs]
              · cases hm
            · cases hm
          · cases hm
        · cases hm
      · exact hK.elim
    · exact hK.elim

theorem op_sound {tm : Nat → LV} {o : Oper} {a : Act} {K : LV → LHeap → Prop} {Q : Exit → Act → World → Prop} (hf : fineOp o = true) (h : Rel W keep ρ g w) (ht : TRel ρ g.next tm a.tmps)
    (hK : opL P (Ok P) tm o g K) : o.wpIn (wideR ro) 0 P a w (Next1 W keep ρ g a o.dst K) Q := by
  have hfine : ∀ x ∈ o.op.operands, fineO x = true := fun x hx => Array.all_eq_true_iff_forall_mem.1 hf x hx
  obtain ⟨dst, op, type, pos, after, guard⟩ := o
  cases op with
  | move x => exact os_move _ hfine h ht hK
  | assign x => exact os_assign _ hfine h ht hK
  | pick c x y => exact os_pick _ _ _ hfine h ht hK
  | alloc t => exact os_alloc _ hfine h ht hK
  | box t x => exact os_box _ _ hfine h ht hK
  | build t parts => exact os_build _ _ hfine h ht hK
  | buildSlice t len parts => exact os_buildSlice _ _ _ hfine h ht hK
  | insert t m k x => exact os_insert _ _ _ _ hfine h ht hK
  | load t x => exact os_load _ _ hfine h ht hK
  | store t x y => exact os_store _ _ _ hfine h ht hK
  | nilCheck x => exact os_nilCheck _ hfine h ht hK
  | binOp op t x y yt => exact os_binOp _ _ _ _ _ hfine h ht hK
  | unOp op t x => exact os_unOp _ _ _ hfine h ht hK
  | convert s d x => exact os_convert _ _ _ hfine h ht hK
  | makeInterface t x => exact os_makeInterface _ _ hfine h ht hK
  | makeFunc fn first caps => exact os_makeFunc _ _ _ hfine h ht hK
  | makeMap t r => exact os_makeMap _ _ hfine h ht hK
  | makeSlice t l c => exact os_makeSlice _ _ _ hfine h ht hK
  | slice t x lo hi mx => exact os_slice _ _ _ _ _ hfine h ht hK
  | fieldAddr t x f => exact os_fieldAddr _ _ _ hfine h ht hK
  | field t x f => exact os_field _ _ _ hfine h ht hK
  | indexAddr t x ix => exact os_indexAddr _ _ _ hfine h ht hK
  | index t x ix => exact os_index _ _ _ hfine h ht hK
  | lookup t x k ok => exact os_lookup _ _ _ _ hfine h ht hK
  | mapUpdate t m k x => exact os_mapUpdate _ _ _ _ hfine h ht hK
  | mapEntry t m k => exact os_mapEntry _ _ _ hfine h ht hK
  | entryStore t m s x => exact os_entryStore _ _ _ _ hfine h ht hK
  | range t x => exact os_range _ _ hfine h ht hK
  | next it isS => exact os_next _ _ hfine h ht hK
  | entry it => exact os_entry _ hfine h ht hK
  | typeAssert x xt t ok => exact os_typeAssert _ _ _ _ hfine h ht hK
  | extract x i => exact os_extract _ _ hfine h ht hK
  | call c => exact os_call _ hfine h ht hK
  | _ => unfold opL at hK; exact hK.elim

end Go.Lm

/-
  The logical machine, part N: a region, in the order of its text; a region that draws its order.
-/
namespace Go.Lm

variable {P : Program} {W : World} {keep : Nat → Prop} {ρ : Ren} {g : LHeap} {w : World}

/-! ### Light operations: they yield a value and leave the heap alone -/
def convLightL (P : Program) (s d : TypeId) (x : LV) (g : LHeap) : Option LV :=
  match P.underlying d with
  | some (.int _) | some .string => (convL P s d x g).map (·.1)
  | _ => none
def lightV (P : Program) (tm : Nat → LV) (op : Op) (g : LHeap) : Option LV :=
  match op with
  | .move x | .assign x => some (evL tm x)
  | .pick c a b => pickL (evL tm c) (evL tm a) (evL tm b)
  | .build t parts => buildL P t (parts.toList.map fun p => (p.1, evL tm p.2))
  | .load t a => loadT P t (evL tm a) g
  | .nilCheck x => nilCheckP P (evL tm x)
  | .binOp op t x y _ => binL P op t (isConstO x || isConstO y) (evL tm x) (evL tm y)
  | .unOp op _ x => unL op (evL tm x)
  | .convert s d x => convLightL P s d (evL tm x) g
  | .makeInterface t x => ifaceL P t (evL tm x)
  | .slice t x lo hi mx => cutT P t (evL tm x) (lo.map (evL tm)) (hi.map (evL tm)) (mx.map (evL tm)) (limL (evL tm x) g)
  | .fieldAddr s x f => fieldAddrT P s f (evL tm x)
  | .field s x f => fieldVT P s f (evL tm x)
  | .indexAddr t x ix => ixAddrT P t (evL tm x) (evL tm ix)
  | .index t x ix => indexT P t (evL tm x) (evL tm ix)
  | .lookup t x k ok => lookupL P t (evL tm x) (evL tm k) ok g
  | .typeAssert x _ t ok => assertL P (evL tm x) t ok
  | .extract x i => extractL (evL tm x) i
  | .call c =>
    match c.callee with
    | .builtin .len => match c.argTypes.toList, c.args.toList.map (evL tm) with
      | t :: _, x :: _ => lenL P t x g
      | _, _ => none
    | _ => none
  | _ => none
/-- Is it light? and does what it yields hang on the heap? -/
def kindO (P : Program) : Op → Option Bool
  | .move _ | .assign _ | .pick .. | .build .. | .nilCheck _ | .binOp .. | .unOp .. | .makeInterface .. | .slice .. | .fieldAddr .. | .field .. | .indexAddr .. | .index .. | .typeAssert .. | .extract .. => some false
  | .load .. | .lookup .. => some true
  | .convert s d _ => match P.underlying d with
    | some (.int _) => some false
    | some .string => match P.underlying s with
      | some (.slice _) => some true
      | _ => some false
    | _ => none
  | .call c => match c.callee with
    | .builtin .len => match (c.argTypes.toList.head?).bind P.underlying with
      | some (.map _ _) => some true
      | _ => some false
    | _ => none
  | _ => none

/-- What a light operation yields it yields in each world that holds the heap. -/
def Light (P : Program) (ρ : Ren) (n : Nat) (w : World) (a : Act) (o : Oper) (v : LV) : Prop := (execOp a.eval o).run P w = .ok (.value (v.toV ρ)) w ∧ v.ok ρ n
theorem light_of {o : Oper} {a : Act} {n : Nat} {s : Sem Value} {v : LV} (he : execOp a.eval o = (do pure (.value (← s)) : Sem Next)) (hs : Yields1 P ρ n w s v) : Light P ρ n w a o v :=
  ⟨by rw [he, run_bind_ok hs.1]; rfl, hs.2⟩

theorem simple_conv {s d : TypeId} {x v : LV} (h : Rel W keep ρ g w) (hc : convLightL P s d x g = some v) : Yields1 P ρ g.next w (convert s d (x.toV ρ)) v := by
  unfold convLightL at hc
  split at hc
  · rename_i k hd
    obtain ⟨⟨v', g'⟩, e, e2⟩ := Option.map_eq_some_iff.1 hc
    simp only at e2
    subst e2
    exact (sim_convY h (fun e' he => by rw [hd] at he; cases he) e).1
  · rename_i hd
    obtain ⟨⟨v', g'⟩, e, e2⟩ := Option.map_eq_some_iff.1 hc
    simp only at e2
    subst e2
    exact (sim_convY h (fun e' he => by rw [hd] at he; cases he) e).1
  · cases hc

theorem light_sound {tm : Nat → LV} {o : Oper} {a : Act} {v : LV} (hf : fineOp o = true) (h : Rel W keep ρ g w) (ht : TRel ρ g.next tm a.tmps) (hv : lightV P tm o.op g = some v) :
    Light P ρ g.next w a o v := by
  have hfine : ∀ x ∈ o.op.operands, fineO x = true := fun x hx => Array.all_eq_true_iff_forall_mem.1 hf x hx
  have ev : ∀ x ∈ o.op.operands, a.eval x = (evL tm x).toV ρ ∧ (evL tm x).ok ρ g.next := fun x hx => ev_val ht x (hfine x hx)
  obtain ⟨dst, op, type, pos, after, guard⟩ := o
  simp only at hv
  unfold lightV at hv
  split at hv <;> simp only [Op.operands] at ev hfine
  case h_1 x => cases hv; exact light_of (s := pure (a.eval x)) rfl ⟨by rw [run_pure, (ev x (by simp)).1], (ev x (by simp)).2⟩
  case h_2 x => cases hv; exact light_of (s := pure (a.eval x)) rfl ⟨by rw [run_pure, (ev x (by simp)).1], (ev x (by simp)).2⟩
  case h_3 c x y =>
    unfold pickL at hv
    have hc := ev c (by simp)
    split at hv
    · rename_i e
      cases hv
      refine light_of (s := pure (a.eval x)) ?_ ⟨by rw [run_pure, (ev x (by simp)).1], (ev x (by simp)).2⟩
      simp only [execOp, hc.1, e, LV.toV]
      rfl
    · rename_i e
      cases hv
      refine light_of (s := pure (a.eval y)) ?_ ⟨by rw [run_pure, (ev y (by simp)).1], (ev y (by simp)).2⟩
      simp only [execOp, hc.1, e, LV.toV]
      rfl
    · cases hv
  case h_4 t parts =>
    obtain ⟨p1, p2⟩ := parts_val ht parts.toList (fun x hx => hfine x.2 (List.mem_toArray.2 (List.mem_map.2 ⟨x, hx, rfl⟩)))
    have e : parts.map (fun p => (p.1, a.eval p.2)) = ((parts.toList.map fun p => (p.1, evL tm p.2)).map fun p => (p.1, p.2.toV ρ)).toArray := by
      rw [← p1]; apply Array.ext'; simp
    have hm := sim_build (P := P) (w := w) p2 hv
    rw [← e] at hm
    exact light_of rfl hm
  case h_5 t x => exact light_of (s := Instr.loadAt t ((evL tm x).toV ρ)) (by simp only [execOp, (ev x (by simp)).1]) (sim_load h hv)
  case h_6 x =>
    have hx := ev x (by simp)
    obtain ⟨he, hr⟩ := nilCheckP_run (ρ := ρ) (w := w) (e := a.eval) (dst := dst) (y := x) (ty := type) (pos := pos) (after := after) (guard := guard) hv hx.1
    exact ⟨by rw [he]; exact hr, by rw [he]; exact hx.2⟩
  case h_7 op t x y yt =>
    exact light_of (s := do eqGuard op t x y ((evL tm x).toV ρ) ((evL tm y).toV ρ); binOp op t ((evL tm x).toV ρ) ((evL tm y).toV ρ)) (by simp only [execOp, (ev x (by simp)).1, (ev y (by simp)).1]) (sim_bin hv)
  case h_8 op t x => exact light_of (s := Op.unary op ((evL tm x).toV ρ)) (by simp only [execOp, (ev x (by simp)).1]) (sim_un hv _ _ _)
  case h_9 s d x => exact light_of (s := convert s d ((evL tm x).toV ρ)) (by simp only [execOp, (ev x (by simp)).1]) (simple_conv h hv)
  case h_10 t x => exact light_of (s := Instr.makeInterface t ((evL tm x).toV ρ)) (by simp only [execOp, (ev x (by simp)).1]) (sim_iface (ev x (by simp)).2 hv)
  case h_11 t x lo hi mx =>
    have hx := ev x (by simp)
    have hop : ∀ (y : Option Operand), (∀ z, y = some z → z ∈ (#[x] ++ lo.toArray ++ hi.toArray ++ mx.toArray : Array Operand)) → y.map a.eval = (y.map (evL tm)).map (LV.toV ρ) := by
      intro y hy
      cases y with
      | none => rfl
      | some z => simp only [Option.map_some, (ev z (hy z rfl)).1]
    refine light_of (s := Instr.sliceAt t ((evL tm x).toV ρ) ((lo.map (evL tm)).map (LV.toV ρ)) ((hi.map (evL tm)).map (LV.toV ρ)) ((mx.map (evL tm)).map (LV.toV ρ))) ?_ (sim_cut hx.2 (limL_ok h hx.2) hv)
    simp only [execOp, hx.1]
    rw [hop lo (fun z hz => by subst hz; simp), hop hi (fun z hz => by subst hz; simp), hop mx (fun z hz => by subst hz; simp)]
  case h_12 t x f => exact light_of (s := Instr.fieldAt t ((evL tm x).toV ρ) f) (by simp only [execOp, (ev x (by simp)).1]) (sim_fieldAddr (ev x (by simp)).2 hv)
  case h_13 t x f => exact light_of (s := Instr.field t ((evL tm x).toV ρ) f) (by simp only [execOp, (ev x (by simp)).1]) (sim_field (ev x (by simp)).2 hv)
  case h_14 t x ix => exact light_of (s := Instr.indexAt t ((evL tm x).toV ρ) ((evL tm ix).toV ρ)) (by simp only [execOp, (ev x (by simp)).1, (ev ix (by simp)).1]) (sim_indexAddr (ev x (by simp)).2 hv)
  case h_15 t x ix => exact light_of (s := Instr.index t ((evL tm x).toV ρ) ((evL tm ix).toV ρ)) (by simp only [execOp, (ev x (by simp)).1, (ev ix (by simp)).1]) (sim_index (ev x (by simp)).2 hv)
  case h_16 t x k ok => exact light_of (s := Instr.lookup t ((evL tm x).toV ρ) ((evL tm k).toV ρ) ok) (by simp only [execOp, (ev x (by simp)).1, (ev k (by simp)).1]) (sim_lookup h hv)
  case h_17 x xt t ok => exact light_of (s := Instr.typeAssert ((evL tm x).toV ρ) xt t ok) (by simp only [execOp, (ev x (by simp)).1]) (sim_assert (ev x (by simp)).2 hv)
  case h_18 x i => exact light_of (s := Instr.extract ((evL tm x).toV ρ) i) (by simp only [execOp, (ev x (by simp)).1]) (sim_extract (ev x (by simp)).2 hv)
  case h_19 c =>
    obtain ⟨callee, args, argTypes⟩ := c
    simp only at hv
    split at hv
    · have hargs : ∀ x ∈ args.toList, fineO x = true := fun x hx => hfine x (by
        have : x ∈ args := by simpa using hx
        simp [Call.operands, this])
      obtain ⟨a1, a2⟩ := evs_val ht args.toList hargs
      have a1' : args.map a.eval = (toVs ρ (args.toList.map (evL tm))).toArray := by rw [← a1]; apply Array.ext'; simp
      split at hv
      · rename_i t tl x xl hts has
        have h0 : argTypes[0]? = some t := by rw [← Array.getElem?_toList, hts]; rfl
        obtain ⟨r1, r2⟩ := sim_len (P := P) (ty := type) (rest := toVs ρ xl) h h0 hv
        refine ⟨?_, r2⟩
        simp only [execOp, resolve]
        rw [run_bind_ok (run_pure P _ w)]
        simp only [invoke, builtin]
        rw [a1', has]
        rw [show toVs ρ (x :: xl) = x.toV ρ :: toVs ρ xl from rfl, run_bind_ok r1]
        rfl
      · cases hv
    · cases hv
  case h_20 => cases hv

/-! ### Those that do not look at the heap -/
theorem pure_conv {s d : TypeId} {x v : LV} {n : Nat} (hk : kindO P (.convert s d (.tmp 0)) = some false) (hc : convLightL P s d x g = some v) (w : World) : Yields1 P ρ n w (convert s d (x.toV ρ)) v := by
  unfold convLightL at hc
  unfold kindO at hk
  simp only at hk
  split at hc
  · rename_i k hd
    obtain ⟨⟨v', g'⟩, e, e2⟩ := Option.map_eq_some_iff.1 hc
    simp only at e2
    subst e2
    unfold convL at e
    rw [hd] at e
    split at e
    · rename_i sd k' hs hd'
      cases hd'
      split at e
      · cases e
        refine ⟨?_, by simp [LV.ok]⟩
        simp only [convert, LV.toV]
        rw [run_bind_ok (run_underlying' hs w), run_bind_ok (run_underlying' hd w)]
        cases sd <;> rfl
      · cases e
    · rename_i hd'; cases hd'
    · rename_i hd'; cases hd'
    · rename_i hd'; cases hd'
    · rename_i hd'; cases hd'
    · cases e
  · rename_i hd
    obtain ⟨⟨v', g'⟩, e, e2⟩ := Option.map_eq_some_iff.1 hc
    simp only at e2
    subst e2
    rw [hd] at hk
    simp only at hk
    unfold convL at e
    rw [hd] at e
    split at e
    · rename_i hd'; cases hd'
    · rename_i hd'; cases hd'
    · rename_i e' hs hd'
      rw [hs] at hk
      simp at hk
    · rename_i hs hd'
      split at e
      · cases e
        refine ⟨?_, by simp [LV.ok]⟩
        simp only [convert, LV.toV]
        rw [run_bind_ok (run_underlying' hs w), run_bind_ok (run_underlying' hd w)]
        rfl
      · cases e
    · rename_i hd'; cases hd'
    · cases e
  · cases hc
theorem pure_len {t : TypeId} {x v : LV} {ts : Array TypeId} {ty : TypeId} {rest : List Value} {n : Nat} (hm : ∀ k e, P.underlying t ≠ some (.map k e)) (ht : ts[0]? = some t) (hl : lenL P t x g = some v) (w : World) :
    Yields1 P ρ n w (Builtin.len_ ts ty (x.toV ρ :: rest).toArray) v := by
  have h0 : ((x.toV ρ :: rest).toArray)[0]? = some (x.toV ρ) := rfl
  unfold lenL at hl
  split at hl
  · rename_i s hd
    cases hl
    refine ⟨?_, by simp [LV.ok]⟩
    simp only [Builtin.len_, ht, h0]
    rw [run_bind_ok (run_underlying' hd w)]
    simp [LV.toV, goInt, ByteArray.size]
  · rename_i n e hd
    cases hl
    refine ⟨?_, by simp [LV.ok]⟩
    simp only [Builtin.len_, ht, h0]
    rw [run_bind_ok (run_underlying' hd w)]
    simp [LV.toV, goInt]
  · rename_i a hd
    split at hl
    · rename_i n e ha
      cases hl
      refine ⟨?_, by simp [LV.ok]⟩
      simp only [Builtin.len_, ht, h0]
      rw [run_bind_ok (run_underlying' hd w)]
      simp only
      rw [run_bind_ok (run_underlying' ha w)]
      simp [LV.toV, goInt]
    · cases hl
  · rename_i e hd
    cases hl
    refine ⟨?_, by simp [LV.ok]⟩
    simp only [Builtin.len_, ht, h0]
    rw [run_bind_ok (run_underlying' hd w)]
    simp [LV.toV, goInt]
  · rename_i e hd
    cases hl
    refine ⟨?_, by simp [LV.ok]⟩
    simp only [Builtin.len_, ht, h0]
    rw [run_bind_ok (run_underlying' hd w)]
    simp [LV.toV, goInt]
  · rename_i e a off len c hd
    cases hl
    obtain ⟨cap, hv⟩ := slice_toV ρ a off len c
    refine ⟨?_, by simp [LV.ok]⟩
    simp only [Builtin.len_, ht, h0]
    rw [run_bind_ok (run_underlying' hd w), hv]
    simp [LV.toV, goInt]
  · rename_i k e hd; exact absurd hd (hm k e)
  · rename_i k e a hd; exact absurd hd (hm k e)
  · cases hl

theorem pure_sound {tm : Nat → LV} {o : Oper} {a : Act} {v : LV} {w0 : World} (hf : fineOp o = true) (h : Rel W keep ρ g w0) (hk : kindO P o.op = some false) (ht : TRel ρ g.next tm a.tmps) (hv : lightV P tm o.op g = some v) (w : World) :
    Light P ρ g.next w a o v := by
  have hfine : ∀ x ∈ o.op.operands, fineO x = true := fun x hx => Array.all_eq_true_iff_forall_mem.1 hf x hx
  have ev : ∀ x ∈ o.op.operands, a.eval x = (evL tm x).toV ρ ∧ (evL tm x).ok ρ g.next := fun x hx => ev_val ht x (hfine x hx)
  obtain ⟨dst, op, type, pos, after, guard⟩ := o
  simp only at hv hk
  unfold lightV at hv
  split at hv <;> simp only [Op.operands] at ev hfine
  case h_1 x => cases hv; exact light_of (s := pure (a.eval x)) rfl ⟨by rw [run_pure, (ev x (by simp)).1], (ev x (by simp)).2⟩
  case h_2 x => cases hv; exact light_of (s := pure (a.eval x)) rfl ⟨by rw [run_pure, (ev x (by simp)).1], (ev x (by simp)).2⟩
  case h_3 c x y =>
    unfold pickL at hv
    have hc := ev c (by simp)
    split at hv
    · rename_i e
      cases hv
      refine light_of (s := pure (a.eval x)) ?_ ⟨by rw [run_pure, (ev x (by simp)).1], (ev x (by simp)).2⟩
      simp only [execOp, hc.1, e, LV.toV]
      rfl
    · rename_i e
      cases hv
      refine light_of (s := pure (a.eval y)) ?_ ⟨by rw [run_pure, (ev y (by simp)).1], (ev y (by simp)).2⟩
      simp only [execOp, hc.1, e, LV.toV]
      rfl
    · cases hv
  case h_4 t parts =>
    obtain ⟨p1, p2⟩ := parts_val ht parts.toList (fun x hx => hfine x.2 (List.mem_toArray.2 (List.mem_map.2 ⟨x, hx, rfl⟩)))
    have e : parts.map (fun p => (p.1, a.eval p.2)) = ((parts.toList.map fun p => (p.1, evL tm p.2)).map fun p => (p.1, p.2.toV ρ)).toArray := by
      rw [← p1]; apply Array.ext'; simp
    have hm := sim_build (P := P) (w := w) p2 hv
    rw [← e] at hm
    exact light_of rfl hm
  case h_5 t x => simp [kindO] at hk
  case h_6 x =>
    have hx := ev x (by simp)
    obtain ⟨he, hr⟩ := nilCheckP_run (ρ := ρ) (w := w) (e := a.eval) (dst := dst) (y := x) (ty := type) (pos := pos) (after := after) (guard := guard) hv hx.1
    exact ⟨by rw [he]; exact hr, by rw [he]; exact hx.2⟩
  case h_7 op t x y yt =>
    exact light_of (s := do eqGuard op t x y ((evL tm x).toV ρ) ((evL tm y).toV ρ); binOp op t ((evL tm x).toV ρ) ((evL tm y).toV ρ)) (by simp only [execOp, (ev x (by simp)).1, (ev y (by simp)).1]) (sim_bin hv)
  case h_8 op t x => exact light_of (s := Op.unary op ((evL tm x).toV ρ)) (by simp only [execOp, (ev x (by simp)).1]) (sim_un hv _ _ _)
  case h_9 s d x => exact light_of (s := convert s d ((evL tm x).toV ρ)) (by simp only [execOp, (ev x (by simp)).1]) (pure_conv (s := s) (d := d) (by simpa [kindO] using hk) hv w)
  case h_10 t x => exact light_of (s := Instr.makeInterface t ((evL tm x).toV ρ)) (by simp only [execOp, (ev x (by simp)).1]) (sim_iface (ev x (by simp)).2 hv)
  case h_11 t x lo hi mx =>
    have hx := ev x (by simp)
    have hop : ∀ (y : Option Operand), (∀ z, y = some z → z ∈ (#[x] ++ lo.toArray ++ hi.toArray ++ mx.toArray : Array Operand)) → y.map a.eval = (y.map (evL tm)).map (LV.toV ρ) := by
      intro y hy
      cases y with
      | none => rfl
      | some z => simp only [Option.map_some, (ev z (hy z rfl)).1]
    refine light_of (s := Instr.sliceAt t ((evL tm x).toV ρ) ((lo.map (evL tm)).map (LV.toV ρ)) ((hi.map (evL tm)).map (LV.toV ρ)) ((mx.map (evL tm)).map (LV.toV ρ))) ?_ (sim_cut hx.2 (limL_ok h hx.2) hv)
    simp only [execOp, hx.1]
    rw [hop lo (fun z hz => by subst hz; simp), hop hi (fun z hz => by subst hz; simp), hop mx (fun z hz => by subst hz; simp)]
  case h_12 t x f => exact light_of (s := Instr.fieldAt t ((evL tm x).toV ρ) f) (by simp only [execOp, (ev x (by simp)).1]) (sim_fieldAddr (ev x (by simp)).2 hv)
  case h_13 t x f => exact light_of (s := Instr.field t ((evL tm x).toV ρ) f) (by simp only [execOp, (ev x (by simp)).1]) (sim_field (ev x (by simp)).2 hv)
  case h_14 t x ix => exact light_of (s := Instr.indexAt t ((evL tm x).toV ρ) ((evL tm ix).toV ρ)) (by simp only [execOp, (ev x (by simp)).1, (ev ix (by simp)).1]) (sim_indexAddr (ev x (by simp)).2 hv)
  case h_15 t x ix => exact light_of (s := Instr.index t ((evL tm x).toV ρ) ((evL tm ix).toV ρ)) (by simp only [execOp, (ev x (by simp)).1, (ev ix (by simp)).1]) (sim_index (ev x (by simp)).2 hv)
  case h_16 t x k ok => simp [kindO] at hk
  case h_17 x xt t ok => exact light_of (s := Instr.typeAssert ((evL tm x).toV ρ) xt t ok) (by simp only [execOp, (ev x (by simp)).1]) (sim_assert (ev x (by simp)).2 hv)
  case h_18 x i => exact light_of (s := Instr.extract ((evL tm x).toV ρ) i) (by simp only [execOp, (ev x (by simp)).1]) (sim_extract (ev x (by simp)).2 hv)
  case h_19 c =>
    obtain ⟨callee, args, argTypes⟩ := c
    simp only at hv
    split at hv
    · have hargs : ∀ x ∈ args.toList, fineO x = true := fun x hx => hfine x (by
        have : x ∈ args := by simpa using hx
        simp [Call.operands, this])
      obtain ⟨a1, a2⟩ := evs_val ht args.toList hargs
      have a1' : args.map a.eval = (toVs ρ (args.toList.map (evL tm))).toArray := by rw [← a1]; apply Array.ext'; simp
      split at hv
      · rename_i t tl x xl hts has
        have h0 : argTypes[0]? = some t := by rw [← Array.getElem?_toList, hts]; rfl
        have hm : ∀ k e, P.underlying t ≠ some (.map k e) := by
          intro k e he
          simp [kindO, hts, he] at hk
        obtain ⟨r1, r2⟩ := pure_len (P := P) (ρ := ρ) (n := g.next) (ty := type) (rest := toVs ρ xl) hm h0 hv w
        refine ⟨?_, r2⟩
        simp only [execOp, resolve]
        rw [run_bind_ok (run_pure P _ w)]
        simp only [invoke, builtin]
        rw [a1', has]
        rw [show toVs ρ (x :: xl) = x.toV ρ :: toVs ρ xl from rfl, run_bind_ok r1]
        rfl
      · cases hv
    · cases hv
  case h_20 => cases hv

end Go.Lm

/-
  The logical machine, part O: regions.
-/
namespace Go.Lm

variable {ro : Option Nat} {lo : Nat} {P : Program} {W : World} {keep : Nat → Prop} {ρ : Ren} {g : LHeap} {w : World}

/-! ### A state of the frame -/
def markD (r : Nat) : Deferred := { target := .collected r, args := #[] }
/-- The marks of ranges over functions among an activation's deferred calls: nothing is collected in their blocks, and nobody turns these. -/
def Marks (lo : Nat) (W : World) (keep : Nat → Prop) (ds : List Deferred) : Prop :=
  lo ≤ W.heap.size ∧ ∃ rs : List Nat, rs.Nodup ∧ ds = rs.map markD ∧ ∀ r ∈ rs, lo ≤ r ∧ keep r ∧ W.heap[r]? = some (.deferred (some []))
structure SRel (lo : Nat) (W : World) (keep : Nat → Prop) (ρ : Ren) (N : Nat) (st : LSt) (a : Act) (w : World) : Prop where
  rel : Rel W keep ρ st.g w
  tm : TRel ρ st.g.next st.tm a.tmps
  size : a.tmps.size = N
  defers : Marks lo W keep a.defers
/-- Behind a state: some state that follows it. -/
def Later (lo : Nat) (W : World) (keep : Nat → Prop) (ρ : Ren) (N : Nat) (n : Nat) (K : LSt → Prop) : Act → World → Prop := fun a w =>
  ∃ st ρ', Ren.Ext n ρ ρ' ∧ n ≤ st.g.next ∧ SRel lo W keep ρ' N st a w ∧ K st

theorem Later.mono {N n : Nat} {K K' : LSt → Prop} {a : Act} {w : World} (h : Later lo W keep ρ N n K a w) (hk : ∀ st, K st → K' st) : Later lo W keep ρ N n K' a w := by
  obtain ⟨st, ρ', h1, h2, h3, h4⟩ := h
  exact ⟨st, ρ', h1, h2, h3, hk _ h4⟩
theorem Later.trans {N n m : Nat} {ρ1 : Ren} {K : LSt → Prop} {a : Act} {w : World} (hx : Ren.Ext n ρ ρ1) (hnm : n ≤ m) (h : Later lo W keep ρ1 N m K a w) : Later lo W keep ρ N n K a w := by
  obtain ⟨st, ρ', h1, h2, h3, h4⟩ := h
  exact ⟨st, ρ', hx.trans h1 hnm, Nat.le_trans hnm h2, h3, h4⟩

theorem TRel.put {n : Nat} {tm : Nat → LV} {a : Act} {d : Nat} {v : LV} (h : TRel ρ n tm a.tmps) (hd : d < a.tmps.size) (hv : v.ok ρ n) : TRel ρ n (putL tm (some d) v) (a.put (some d) (v.toV ρ)).tmps where
  val t := by
    simp only [Act.put, putL]
    by_cases ht : t = d
    · subst ht
      simp [hd]
    · have : Nat.beq t d = false := by
        cases hb : Nat.beq t d with
        | false => rfl
        | true => exact absurd (Nat.eq_of_beq_eq_true hb) ht
      simp only [this, Bool.false_eq_true, if_false]
      rw [← h.val t]
      simp [Array.getElem?_setIfInBounds_ne (Ne.symm ht)]
  ok t := by
    simp only [putL]
    split
    · exact hv
    · exact h.ok t
theorem TRel.ext {n m : Nat} {ρ' : Ren} {tm : Nat → LV} {tmps : Array Value} (h : TRel ρ n tm tmps) (hx : Ren.Ext n ρ ρ') (hnm : n ≤ m) : TRel ρ' m tm tmps where
  val t := by rw [h.val t, LV.toV_ext hx _ (h.ok t)]
  ok t := LV.ok_ext hx hnm _ (h.ok t)
theorem SRel.put {N : Nat} {st : LSt} {a : Act} {o : Oper} {v : LV} {g' : LHeap} {ρ' : Ren} {w' : World} (h : SRel lo W keep ρ N st a w) (hd : dstOK N o = true) (hp : Post W keep ρ st.g v g' ρ' w') :
    SRel lo W keep ρ' N ⟨putL st.tm o.dst v, g'⟩ (a.put o.dst (v.toV ρ')) w' := by
  have ht := h.tm.ext hp.ext hp.le
  obtain ⟨dst, op, type, pos, after, guard⟩ := o
  cases dst with
  | none => exact ⟨hp.rel, ht, h.size, h.defers⟩
  | some d =>
    have hd : d < N := by simpa [dstOK, Nat.blt_eq] using hd
    exact ⟨hp.rel, ht.put (by rw [h.size]; exact hd) hp.ok, by simp only [Act.put, Array.size_setIfInBounds]; exact h.size, h.defers⟩
theorem putL_same {tm : Nat → LV} {d : Nat} {v : LV} (h : tm d = v) : putL tm (some d) v = tm := by
  funext t
  simp only [putL]
  split
  · rename_i e; rw [Nat.eq_of_beq_eq_true e, h]
  · rfl
theorem undef_toV (ρ : Ren) : undefL.toV ρ = undef := rfl
theorem undef_ok (ρ : Ren) (n : Nat) : undefL.ok ρ n := by simp [undefL, LV.ok, oks]

/-- The guard, as the model asks it. -/
theorem wanted_of {ops : Array Oper} {o : Oper} {tm : Nat → LV} {n : Nat} {a : Act} {j : Nat} {want b : Bool} {d : Nat} (ht : TRel ρ n tm a.tmps) (hg : o.guard = some (j, want)) (hd : (ops[j]?).bind (·.dst) = some d) (hb : tm d = .bool b) :
    Region.wanted o (yielded ops a.tmps) = (b == want) := by
  have hv := ht.val d
  rw [hb] at hv
  have hsome : a.tmps[d]? = some (.bool b) := by
    simp only [LV.toV] at hv
    cases he : a.tmps[d]? with
    | none => simp [he, undef] at hv
    | some x => simp [he] at hv; rw [hv]
  simp only [Region.wanted, hg, yielded, hd, Option.bind_some, hsome]
  rfl

theorem wanted_undef {ops : Array Oper} {o : Oper} {tm : Nat → LV} {n : Nat} {a : Act} {j : Nat} {want : Bool} {d : Nat} (ht : TRel ρ n tm a.tmps) (hg : o.guard = some (j, want)) (hd : (ops[j]?).bind (·.dst) = some d) (hb : tm d = .tuple []) :
    Region.wanted o (yielded ops a.tmps) = false := by
  have hv := ht.val d
  rw [hb] at hv
  simp only [LV.toV, toVs] at hv
  simp only [Region.wanted, hg, yielded, hd, Option.bind_some]
  cases he : a.tmps[d]? with
  | none => rfl
  | some x =>
    have : x = .tuple #[] := by simpa [he] using hv
    subst this
    rfl

theorem step_sound {N : Nat} {ops : Array Oper} {i : Nat} {o : Oper} {st : LSt} {a : Act} {K : LSt → Prop} {Q : Exit → Act → World → Prop} (hi : ops[i]? = some o) (hf : fineOp o = true) (hd : dstOK N o = true) (h : SRel lo W keep ρ N st a w)
    (hK : stepL P (Ok P) ops o st K) : wpOpIn (wideR ro) 0 P ops Q i (Later lo W keep ρ N st.g.next K) a w := by
  unfold wpOpIn
  simp only [hi]
  have run : opL P (Ok P) st.tm o st.g (fun v g => K ⟨putL st.tm o.dst v, g⟩) → o.wpIn (wideR ro) 0 P a w (Later lo W keep ρ N st.g.next K) Q := by
    intro hK
    refine Oper.wpIn_mono (fun a' w' hn => ?_) (op_sound hf h.rel h.tm hK)
    obtain ⟨v, g', ρ', hp, rfl, hk⟩ := hn
    exact ⟨_, ρ', hp.ext, hp.le, h.put hd hp, hk⟩
  have skip : K ⟨putL st.tm o.dst undefL, st.g⟩ → Later lo W keep ρ N st.g.next K (a.put o.dst undef) w := by
    intro hk
    exact ⟨⟨putL st.tm o.dst undefL, st.g⟩, ρ, Ren.Ext.refl _ _, Nat.le_refl _, h.put hd (v := undefL) (Post.same h.rel (undef_ok _ _)), hk⟩
  unfold stepL at hK
  split at hK
  · rename_i hg
    have : Region.wanted o (yielded ops a.tmps) = true := by simp [Region.wanted, hg]
    rw [if_pos this]
    exact (run hK)
  · rename_i j want hg
    split at hK
    · exact hK.elim
    · rename_i d hdj
      split at hK
      · rename_i hb
        have hw := wanted_of h.tm hg hdj hb
        rw [putL_same hb] at hK
        cases want with
        | true => rw [if_pos (by rw [hw]; rfl)]; exact (run (by simpa using hK))
        | false => rw [if_neg (by rw [hw]; simp)]; exact ⟨fun _ _ => trivial, skip (by simpa using hK)⟩
      · rename_i hb
        have hw := wanted_of h.tm hg hdj hb
        rw [putL_same hb] at hK
        cases want with
        | true => rw [if_neg (by rw [hw]; simp)]; exact ⟨fun _ _ => trivial, skip (by simpa using hK)⟩
        | false => rw [if_pos (by rw [hw]; rfl)]; exact (run (by simpa using hK))
      · rename_i hb
        rw [if_neg (by rw [wanted_undef h.tm hg hdj hb]; simp)]
        exact ⟨fun _ _ => trivial, skip hK⟩
      · exact hK.elim

theorem run_sound {N : Nat} {ops : Array Oper} {Q : Exit → Act → World → Prop} (hfine : ∀ o ∈ ops.toList, fineOp o = true ∧ dstOK N o = true) :
    ∀ (l : List Oper) (k : Nat) (st : LSt) (a : Act) (w : World) (ρ : Ren) (K : LSt → Prop), ops.toList.drop k = l → SRel lo W keep ρ N st a w → runL P (Ok P) ops l st K →
      (∀ a w, Later lo W keep ρ N st.g.next K a w → Q .normal a w) → wpOpsIn (wideR ro) 0 P ops Q (List.range' k l.length) a w := by
  intro l
  induction l with
  | nil =>
    intro k st a w ρ K hl h hK hQ
    exact hQ _ _ ⟨st, ρ, Ren.Ext.refl _ _, Nat.le_refl _, h, hK⟩
  | cons o rest ih =>
    intro k st a w ρ K hl h hK hQ
    have ho : ops[k]? = some o := by
      have : (ops.toList.drop k)[0]? = some o := by rw [hl]; rfl
      rw [List.getElem?_drop] at this
      simpa using this
    have hmem : o ∈ ops.toList := by
      have : o ∈ ops.toList.drop k := by rw [hl]; simp
      exact List.mem_of_mem_drop this
    have hrest : ops.toList.drop (k + 1) = rest := by
      have : (ops.toList.drop k).drop 1 = rest := by rw [hl]; rfl
      rwa [List.drop_drop] at this
    rw [List.length_cons, List.range'_succ, wpOpsIn_cons]
    refine wpOpIn_mono ?_ (step_sound ho (hfine o hmem).1 (hfine o hmem).2 h hK)
    rintro a' w' ⟨st', ρ', h1, h2, h3, h4⟩
    exact ih (k + 1) st' a' w' ρ' K hrest h3 h4 (fun a'' w'' hl => hQ _ _ (hl.trans h1 h2))
theorem region_sound {N id : Nat} {ops : Array Oper} {Q : Exit → Act → World → Prop} {st : LSt} {a : Act} {K : LSt → Prop} (hfine : ∀ o ∈ ops.toList, fineOp o = true ∧ dstOK N o = true) (h : SRel lo W keep ρ N st a w)
    (hK : runL P (Ok P) ops ops.toList st K) (hQ : ∀ a w, Later lo W keep ρ N st.g.next K a w → Q .normal a w) : (Code.region id ops false).wpIn (wideR ro) 0 P Q a w := by
  refine wpIn_region ?_
  have := run_sound (ro := ro) (P := P) (Q := Q) hfine ops.toList 0 st a w ρ K rfl h hK hQ
  rw [List.range_eq_range']
  simpa using this

end Go.Lm

/-
  The logical machine, part P: a region that draws its order: one walk serves every order.
-/
namespace Go.Lm

variable {ro : Option Nat} {lo : Nat} {P : Program} {W : World} {keep : Nat → Prop} {ρ : Ren} {g : LHeap} {w : World}

/-! ### Who waits for whom -/
def maskOf (acc : List Nat) (es : List Edge) : Nat := es.foldl (fun s e => if Region.binds .any e then s ||| 2 ^ e.on ||| acc.getD e.on 0 else s) 0
def masks : List Oper → List Nat → List Nat
  | [], acc => acc
  | o :: os, acc => masks os (acc ++ [maskOf acc o.after.toList])

theorem maskOf_bit {acc : List Nat} {i : Nat} : ∀ (es : List Edge) (s : Nat), (es.foldl (fun s e => if Region.binds .any e then s ||| 2 ^ e.on ||| acc.getD e.on 0 else s) s).testBit i = true →
    s.testBit i = true ∨ ∃ e ∈ es, Region.binds .any e = true ∧ (e.on = i ∨ (acc.getD e.on 0).testBit i = true) := by
  intro es
  induction es with
  | nil => intro s h; exact .inl h
  | cons e es ih =>
    intro s h
    simp only [List.foldl_cons] at h
    rcases ih _ h with h1 | ⟨e', he', h2⟩
    · by_cases hb : Region.binds .any e = true
      · rw [if_pos hb, Nat.testBit_or, Nat.testBit_or] at h1
        simp only [Bool.or_eq_true] at h1
        rcases h1 with (h1 | h1) | h1
        · exact .inl h1
        · refine .inr ⟨e, by simp, hb, .inl ?_⟩
          rw [Nat.testBit_two_pow] at h1
          simpa using h1
        · exact .inr ⟨e, by simp, hb, .inr h1⟩
      · rw [if_neg hb] at h1
        exact .inl h1
    · exact .inr ⟨e', by simp [he'], h2⟩

/-- the masks of the first k operations are those that were laid first -/
theorem masks_get : ∀ (os : List Oper) (acc : List Nat) (j : Nat), j < acc.length → (masks os acc).getD j 0 = acc.getD j 0 := by
  intro os
  induction os with
  | nil => intro acc j _; rfl
  | cons o os ih =>
    intro acc j hj
    simp only [masks]
    rw [ih _ j (by simp; omega)]
    simp [List.getElem?_append, hj]
theorem masks_spec : ∀ (os : List Oper) (acc : List Nat) (j : Nat) (o : Oper), acc.length ≤ j → os[j - acc.length]? = some o → ∀ i, ((masks os acc).getD j 0).testBit i = true →
    ∃ e ∈ o.after.toList, Region.binds .any e = true ∧ (e.on = i ∨ (e.on < j ∧ ((masks os acc).getD e.on 0).testBit i = true)) := by
  intro os
  induction os with
  | nil => intro acc j o _ h; simp at h
  | cons x os ih =>
    intro acc j o hle ho i hb
    by_cases hj : j = acc.length
    · subst hj
      simp at ho
      subst ho
      simp only [masks] at hb ⊢
      rw [masks_get os _ acc.length (by simp)] at hb
      have hm : (acc ++ [maskOf acc x.after.toList]).getD acc.length 0 = maskOf acc x.after.toList := by simp
      rw [hm] at hb
      unfold maskOf at hb
      rcases maskOf_bit _ _ hb with h0 | ⟨e, he, h1, h2⟩
      · simp at h0
      · refine ⟨e, he, h1, ?_⟩
        rcases h2 with h2 | h2
        · exact .inl h2
        · by_cases hlt : e.on < acc.length
          · refine .inr ⟨hlt, ?_⟩
            rw [masks_get os _ e.on (by simp; omega)]
            simpa [List.getElem?_append, hlt] using h2
          · simp [List.getElem?_eq_none (by omega : acc.length ≤ e.on)] at h2
    · simp only [masks] at hb ⊢
      refine ih _ j o (by simp; omega) ?_ i hb
      rw [show j - acc.length = (j - (acc.length + 1)) + 1 by omega] at ho
      simpa using ho

def Down (ops : Array Oper) (listed : Array Bool) : Prop := ∀ j o, ops[j]? = some o → listed.getD j false = true → ∀ e ∈ o.after, Region.binds .any e = true → listed.getD e.on false = true
theorem down_listed {ops : Array Oper} {listed : Array Bool} (hd : Down ops listed) : ∀ (n j : Nat) (o : Oper), j < n → ops[j]? = some o → (∀ e ∈ o.after, Region.binds .any e = true → listed.getD e.on false = true) →
    ∀ i, ((masks ops.toList []).getD j 0).testBit i = true → listed.getD i false = true := by
  intro n
  induction n with
  | zero => intro j o h; omega
  | succ n ih =>
    intro j o hj ho hall i hb
    obtain ⟨e, he, h1, h2⟩ := masks_spec ops.toList [] j o (Nat.zero_le _) (by simpa using ho) i hb
    have hl := hall e (by simpa using he) h1
    rcases h2 with h2 | ⟨hlt, h2⟩
    · rw [← h2]; exact hl
    · cases hoe : ops[e.on]? with
      | none =>
        exfalso
        have hz : (masks ops.toList []).getD e.on 0 = 0 := by
          have hlen : ∀ (os : List Oper) (acc : List Nat), (masks os acc).length = acc.length + os.length := by
            intro os
            induction os with
            | nil => intro acc; rfl
            | cons x os ih => intro acc; simp only [masks, ih]; simp; omega
          have : (masks ops.toList []).length ≤ e.on := by
            rw [hlen]
            have := Array.getElem?_eq_none_iff.1 hoe
            simpa using this
          simp [List.getElem?_eq_none this]
        rw [hz] at h2
        simp at h2
      | some o' => exact ih e.on o' (by omega) hoe (fun e' he' hb' => hd e.on o' hoe hl e' he' hb') i h2

/-- In a round or not: an operation that is put off is carried out as it was. -/
theorem yieldsIn {ops : Array Oper} {Q : Exit → Act → World → Prop} {S : World → Prop} {i : Nat} {o : Oper} {v : Value} {a : Act} (hi : ops[i]? = some o) (hd : ∀ c, o.op ≠ .defer c) (hy : YieldsIf P ops S o v a)
    {K : Act → World → Prop} {w : World} (hS : S w) (h : K (a.put o.dst v) w) : wpOpIn (wideR ro) 0 P ops Q i K a w := by
  unfold Go.wpOpIn
  simp only [hi]
  rcases hy with ⟨hw, hv⟩ | ⟨hw, rfl⟩
  · simp only [hw, if_true, Oper.wpIn, Oper.semAt_eq _ _ _ hd, hv w hS, Oper.uponIn]; exact ⟨fun _ _ => trivial, h⟩
  · simp only [hw, Bool.false_eq_true, if_false]; exact ⟨fun _ _ => trivial, h⟩
theorem opIn_putIf {ops : Array Oper} {Q : Exit → Act → World → Prop} {S : World → Prop} {j : Nat} {oi oj : Oper} {v : Value} (hj : ops[j]? = some oj) (hap : oi.apart ops oj = true)
    (hsi : ∀ cs b, oi.op ≠ .select cs b) (hsj : ∀ cs b, oj.op ≠ .select cs b) (hdj : ∀ c, oj.op ≠ .defer c)
    (hQ : ∀ c a w, Q (.panic c) (a.put oi.dst v) w → Q (.panic c) a w) {K : Act → World → Prop} {a : Act} {w : World}
    (hy : YieldsIf P ops S oi v a) (h : wpOpIn (wideR ro) 0 P ops Q j K (a.put oi.dst v) w) :
    wpOpIn (wideR ro) 0 P ops Q j (fun a' w' => YieldsIf P ops S oi v a' ∧ K (a'.put oi.dst v) w') a w := by
  obtain ⟨h1, h2, h3⟩ := Oper.apart_spec hap
  have keep : ∀ (a : Act), YieldsIf P ops S oi v a → ∀ u, YieldsIf P ops S oi v (a.put oj.dst u) := fun a hy u =>
    hy.of_same (execOp_put oi hsi a oj.dst u h3) (wanted_put oi a oj.dst u h3)
  have keepD : ∀ d, YieldsIf P ops S oi v { a with defers := d :: a.defers } := fun d => hy.of_same rfl rfl
  unfold wpOpIn at *
  simp only [hj] at *
  rw [wanted_put oj a oi.dst v h1] at h
  split
  · rename_i hw
    simp only [hw, if_true] at h
    unfold Oper.wpIn at *
    refine ⟨fun _ _ => trivial, ?_⟩
    have h := h.2
    rw [Oper.semAt_eq _ _ _ hdj] at h ⊢
    rw [execOp_put oj hsj a oi.dst v h1] at h
    generalize (execOp a.eval oj).run P w = r at *
    cases r with
    | ok n w' =>
      cases n <;> simp only [Oper.uponIn] at h ⊢
      case value u => exact ⟨keep a hy u, by rw [← Act.put_comm a v u h2]; exact h⟩
      case skip => exact ⟨keep a hy _, by rw [← Act.put_comm a v undef h2]; exact h⟩
      case defer d =>
        refine ⟨keep _ (keepD d) _, ?_⟩
        rw [← Act.put_comm _ v undef h2, ← Act.put_defers]
        exact h
      case enter f args =>
        refine ⟨h.1, CallsIn.mono h.2 fun e w'' he => ?_⟩
        cases e with
        | returned u => exact ⟨keep a hy u, by rw [← Act.put_comm a v u h2]; exact he⟩
        | panicked c => exact hQ _ _ _ he
        | outgrown => exact he
      case row row args => exact ⟨h.1, RowsIn.mono h.2 fun u w'' he => ⟨keep a hy u, by rw [← Act.put_comm a v u h2]; exact he⟩⟩
      case round l f tmps assign body =>
        refine ⟨h.1, RoundIn.mono h.2 fun e w'' he => ?_⟩
        cases e with
        | returned u => exact ⟨keep a hy u, by rw [← Act.put_comm a v u h2]; exact he⟩
        | panicked c => exact hQ _ _ _ he
        | outgrown => exact he
    | halt x w' =>
      cases x <;> simp only [Oper.uponIn] at h ⊢
      case panic u => exact hQ _ _ _ h
  · rename_i hw
    simp only [hw] at h
    exact ⟨fun _ _ => trivial, keep a hy _, by rw [← Act.put_comm a v undef h2]; exact h.2⟩
/-! ### Conditions that a later operation must keep -/
/-- Whatever order is picked; a light operation leaves the world; each condition holds behind each operation that it looks at. -/
def wpAnyD (ro : Option Nat) (P : Program) (ops : Array Oper) (L : Nat → Bool) (Q : Exit → Act → World → Prop) (D : List ((Nat → Bool) × (World → Prop))) : Nat → Array Bool → Act → World → Prop
  | 0, listed, a, w => Region.ready .any ops listed = [] ∧ Q .normal a w
  | fuel + 1, listed, a, w =>
    (Region.ready .any ops listed = [] → Q .normal a w) ∧
    ∀ i ∈ Region.ready .any ops listed, wpOpIn (wideR ro) 0 P ops Q i (fun a' w' => (L i = true → w' = w) ∧ (∀ d ∈ D, d.1 i = true → d.2 w') ∧ wpAnyD ro P ops L Q D fuel (listed.setIfInBounds i true) a' w') a w
section
variable {ops : Array Oper} {L : Nat → Bool} {Q : Exit → Act → World → Prop}
theorem wpAny_of_D {D : List ((Nat → Bool) × (World → Prop))} : ∀ (fuel : Nat) (listed : Array Bool) (a : Act) (w : World), wpAnyD ro P ops L Q D fuel listed a w → wpAnyIn (wideR ro) 0 P .any ops Q fuel listed a w
  | 0, _, _, _, h => h
  | fuel + 1, _, _, _, h => ⟨h.1, fun i hi => wpOpIn_mono (fun a' w' h' => wpAny_of_D fuel _ a' w' h'.2.2) (h.2 i hi)⟩
theorem wpAnyD_tail {d : (Nat → Bool) × (World → Prop)} {D : List ((Nat → Bool) × (World → Prop))} : ∀ (fuel : Nat) (listed : Array Bool) (a : Act) (w : World), wpAnyD ro P ops L Q (d :: D) fuel listed a w → wpAnyD ro P ops L Q D fuel listed a w
  | 0, _, _, _, h => h
  | fuel + 1, _, _, _, h => ⟨h.1, fun i hi => wpOpIn_mono (fun a' w' h' => ⟨h'.1, fun e he => h'.2.1 e (by simp [he]), wpAnyD_tail fuel _ a' w' h'.2.2⟩) (h.2 i hi)⟩
theorem wpAnyD_more {d : (Nat → Bool) × (World → Prop)} {D : List ((Nat → Bool) × (World → Prop))} (hd : ∀ (_ : Nat) (w : World), d.2 w) : ∀ (fuel : Nat) (listed : Array Bool) (a : Act) (w : World), wpAnyD ro P ops L Q D fuel listed a w → wpAnyD ro P ops L Q (d :: D) fuel listed a w
  | 0, _, _, _, h => h
  | fuel + 1, _, _, _, h => ⟨h.1, fun i hi => wpOpIn_mono (fun a' w' h' => ⟨h'.1, fun e he hei => by
      rcases List.mem_cons.1 he with rfl | he
      · exact hd i w'
      · exact h'.2.1 e he hei, wpAnyD_more hd fuel _ a' w' h'.2.2⟩) (h.2 i hi)⟩
theorem down_set {listed : Array Bool} {j : Nat} (hd : Down ops listed) (hj : j ∈ Region.ready .any ops listed) : Down ops (listed.setIfInBounds j true) := by
  intro k o ho hk e he hb
  by_cases hkj : j = k
  · subst hkj
    obtain ⟨_, o', ho', hall⟩ := mem_ready.1 hj
    rw [ho] at ho'
    cases ho'
    exact getD_set_true (hall e he hb)
  · rw [getD_set_ne false hkj] at hk
    exact getD_set_true (hd k o ho hk e he hb)

/-- An operation that only yields a value may be carried out first. -/
theorem takeFirst {i : Nat} {oi : Oper} {v : Value} {S : World → Prop} {c : Nat → Bool} (hi : ops[i]? = some oi) (hsel : ∀ (j : Nat) (o : Oper), ops[j]? = some o → (∀ cs b, o.op ≠ .select cs b) ∧ ∀ c, o.op ≠ .defer c)
    (hQ : ∀ c a w, Q (.panic c) (a.put oi.dst v) w → Q (.panic c) a w) (hc : ∀ j o, ops[j]? = some o → L j = false → ((masks ops.toList []).getD j 0).testBit i = false → c j = true) :
    ∀ (fuel : Nat) (listed : Array Bool) (D : List ((Nat → Bool) × (World → Prop))) (a : Act) (w : World), (∀ d ∈ D, d.1 i = false) → Down ops listed →
      (∀ j oj, ops[j]? = some oj → j ≠ i → listed.getD j true = false → ((masks ops.toList []).getD j 0).testBit i = false → oi.apart ops oj = true) →
      i ∈ Region.ready .any ops listed → YieldsIf P ops S oi v a → S w →
      wpAnyD ro P ops L Q ((c, S) :: D) fuel (listed.setIfInBounds i true) (a.put oi.dst v) w → wpAnyD ro P ops L Q D (fuel + 1) listed a w := by
  intro fuel
  induction fuel with
  | zero =>
    intro listed D a w hD hdown hfree hr hy hS H
    refine ⟨fun h => (by rw [h] at hr; cases hr), fun j hj => ?_⟩
    by_cases hji : j = i
    · subst hji; exact yieldsIn hi (hsel _ _ hi).2 hy hS ⟨fun _ => rfl, fun d hd e => (by rw [hD d hd] at e; cases e), wpAnyD_tail _ _ _ _ H⟩
    · have := ready_mono hj hji
      rw [H.1] at this
      cases this
  | succ fuel ih =>
    intro listed D a w hD hdown hfree hr hy hS H
    refine ⟨fun h => (by rw [h] at hr; cases hr), fun j hj => ?_⟩
    by_cases hji : j = i
    · subst hji; exact yieldsIn hi (hsel _ _ hi).2 hy hS ⟨fun _ => rfl, fun d hd e => (by rw [hD d hd] at e; cases e), wpAnyD_tail _ _ _ _ H⟩
    · have h1 := H.2 j (ready_mono hj hji)
      obtain ⟨hjun, oj, hoj, hall⟩ := mem_ready.1 hj
      have hnot : ((masks ops.toList []).getD j 0).testBit i = false := by
        cases hb : ((masks ops.toList []).getD j 0).testBit i with
        | false => rfl
        | true =>
          have h1 := down_listed hdown (j + 1) j oj (by omega) hoj hall i hb
          have h0 := (mem_ready.1 hr).1
          rcases Nat.lt_or_ge i listed.size with h' | h'
          · simp [h'] at h0 h1; rw [h0] at h1; cases h1
          · simp [Array.getElem?_eq_none h'] at h1
      have h2 := opIn_putIf hoj (hfree j oj hoj hji hjun hnot) (hsel i oi hi).1 (hsel j oj hoj).1 (hsel j oj hoj).2 hQ hy h1
      have hfree' : ∀ k ok, ops[k]? = some ok → k ≠ i → (listed.setIfInBounds j true).getD k true = false → ((masks ops.toList []).getD k 0).testBit i = false → oi.apart ops ok = true := fun k ok hk hki hun hno => by
        refine hfree k ok hk hki ?_ hno
        by_cases hjk : j = k
        · subst hjk; exact hjun
        · rw [getD_set_ne true hjk] at hun; exact hun
      refine wpOpIn_mono (fun a' w' h3 => ⟨h3.2.1, fun d hd e => h3.2.2.1 d (by simp [hd]) e, ih (listed.setIfInBounds j true) D a' w' hD (down_set hdown hj) hfree' (ready_mono hr (Ne.symm hji)) h3.1 ?_ ?_⟩) h2
      · cases hl : L j with
        | true => rw [h3.2.1 hl]; exact hS
        | false => exact h3.2.2.1 (c, S) (by simp) (hc j oj hoj hl hnot)
      · rw [Array.setIfInBounds_comm _ _ hji]
        exact h3.2.2.2
end

/-! ### The walk -/
/-- A read that may still be carried out later: its number, itself, the frame in which it read, what it read. -/
structure Held where
  i : Nat
  o : Oper
  tm : Nat → LV
  v : LV

def conc (ms : List Nat) (i j : Nat) : Bool := !((ms.getD j 0).testBit i)
/-- Behind operation j: each read that is held and does not come before j in any case reads the same. -/
def heldOK (P : Program) (ms : List Nat) (j : Nat) (g : LHeap) : List Held → Prop
  | [] => True
  | h :: hs => (conc ms h.i j = true → lightV P h.tm h.o.op g = some h.v) ∧ heldOK P ms j g hs
def freeL (ops : Array Oper) (ms : List Nat) (listed : Array Bool) (i : Nat) (o : Oper) : Bool :=
  (List.range ops.size).all fun j => match ops[j]? with
    | some oj => j == i || listed.getD j true || !(conc ms i j) || o.apart ops oj
    | none => true
def pickL1 (P : Program) (ops : Array Oper) (ms : List Nat) (listed : Array Bool) (rs : List Nat) : Option (Nat × Oper × Bool) :=
  rs.findSome? fun i => match ops[i]? with
    | some o => match kindO P o.op with
      | some r => if freeL ops ms listed i o then some (i, o, r) else none
      | none => none
    | none => none
def allL : List Nat → (Nat → Prop) → Prop
  | [], _ => True
  | i :: is, f => f i ∧ allL is f
def lightStep (P : Program) (ops : Array Oper) (i : Nat) (o : Oper) (reads : Bool) (D : List Held) (st : LSt) (K : List Held → LSt → Prop) : Prop :=
  match o.guard with
  | none => vK (lightV P st.tm o.op st.g) fun v => K (if reads then ⟨i, o, st.tm, v⟩ :: D else D) ⟨putL st.tm o.dst v, st.g⟩
  | some (j, want) =>
    match (ops[j]?).bind (·.dst) with
    | none => False
    | some d =>
      match st.tm d with
      | .bool true => if want then vK (lightV P (putL st.tm (some d) (.bool true)) o.op st.g) fun v => K (if reads then ⟨i, o, putL st.tm (some d) (.bool true), v⟩ :: D else D) ⟨putL (putL st.tm (some d) (.bool true)) o.dst v, st.g⟩
        else K D ⟨putL (putL st.tm (some d) (.bool true)) o.dst undefL, st.g⟩
      | .bool false => if want then K D ⟨putL (putL st.tm (some d) (.bool false)) o.dst undefL, st.g⟩
        else vK (lightV P (putL st.tm (some d) (.bool false)) o.op st.g) fun v => K (if reads then ⟨i, o, putL st.tm (some d) (.bool false), v⟩ :: D else D) ⟨putL (putL st.tm (some d) (.bool false)) o.dst v, st.g⟩
      | .tuple [] => K D ⟨putL st.tm o.dst undefL, st.g⟩
      | _ => False
def drawL (P : Program) (C : CallSem) (ops : Array Oper) (ms : List Nat) : Nat → Array Bool → List Held → LSt → (LSt → Prop) → Prop
  | 0, listed, _, st, K => match Region.ready .any ops listed with
    | [] => K st
    | _ => False
  | n + 1, listed, D, st, K =>
    match Region.ready .any ops listed with
    | [] => K st
    | r :: rs =>
      match pickL1 P ops ms listed (r :: rs) with
      | some (i, o, reads) => lightStep P ops i o reads D st fun D' st' => drawL P C ops ms n (listed.setIfInBounds i true) D' st' K
      | none => allL (r :: rs) fun i =>
        match ops[i]? with
        | some o => match kindO P o.op with
          | some _ => False
          | none => stepL P C ops o st fun st' => heldOK P ms i st'.g D ∧ drawL P C ops ms n (listed.setIfInBounds i true) D st' K
        | none => False

/-- Is operation i light? -/
def lightAt (P : Program) (ops : Array Oper) (i : Nat) : Bool := (ops[i]?).any fun o => (kindO P o.op).isSome
/-- A held read, as a condition on the world. -/
def HeldR (P : Program) (ops : Array Oper) (ms : List Nat) (ρ : Ren) (n : Nat) (h : Held) (d : (Nat → Bool) × (World → Prop)) : Prop :=
  d.1 = (fun j => conc ms h.i j && !(lightAt P ops j)) ∧ fineOp h.o = true ∧ ∃ a : Act, TRel ρ n h.tm a.tmps ∧ h.v.ok ρ n ∧ d.2 = fun w => (execOp a.eval h.o).run P w = .ok (.value (h.v.toV ρ)) w
theorem HeldR.ext {ops : Array Oper} {ms : List Nat} {n m : Nat} {ρ' : Ren} {h : Held} {d : (Nat → Bool) × (World → Prop)} (hr : HeldR P ops ms ρ n h d) (hx : Ren.Ext n ρ ρ') (hnm : n ≤ m) : HeldR P ops ms ρ' m h d := by
  obtain ⟨h1, h2, a, h3, h4, h5⟩ := hr
  exact ⟨h1, h2, a, h3.ext hx hnm, LV.ok_ext hx hnm _ h4, by rw [h5, LV.toV_ext hx _ h4]⟩
def HeldsR (P : Program) (ops : Array Oper) (ms : List Nat) (ρ : Ren) (n : Nat) : List Held → List ((Nat → Bool) × (World → Prop)) → Prop
  | [], [] => True
  | h :: hs, d :: ds => HeldR P ops ms ρ n h d ∧ HeldsR P ops ms ρ n hs ds
  | _, _ => False
theorem HeldsR.ext {ops : Array Oper} {ms : List Nat} {n m : Nat} {ρ' : Ren} (hx : Ren.Ext n ρ ρ') (hnm : n ≤ m) : ∀ {hs : List Held} {ds : List ((Nat → Bool) × (World → Prop))}, HeldsR P ops ms ρ n hs ds → HeldsR P ops ms ρ' m hs ds
  | [], [], _ => trivial
  | _ :: _, _ :: _, h => ⟨h.1.ext hx hnm, HeldsR.ext hx hnm h.2⟩
  | [], _ :: _, h => h.elim
  | _ :: _, [], h => h.elim
theorem HeldsR.fst {ops : Array Oper} {ms : List Nat} {n i : Nat} (hl : lightAt P ops i = true) : ∀ {hs : List Held} {ds : List ((Nat → Bool) × (World → Prop))}, HeldsR P ops ms ρ n hs ds → ∀ d ∈ ds, d.1 i = false
  | [], [], _, d, hd => by cases hd
  | _ :: _, _ :: _, h, d, hd => by
    rcases List.mem_cons.1 hd with rfl | hd
    · rw [h.1.1]; simp [hl]
    · exact HeldsR.fst hl h.2 d hd
  | [], _ :: _, h, _, _ => h.elim
  | _ :: _, [], h, _, _ => h.elim
theorem HeldsR.met {ops : Array Oper} {ms : List Nat} {j : Nat} (hrel : Rel W keep ρ g w) : ∀ {hs : List Held} {ds : List ((Nat → Bool) × (World → Prop))}, HeldsR P ops ms ρ g.next hs ds → heldOK P ms j g hs → ∀ d ∈ ds, d.1 j = true → d.2 w
  | [], [], _, _, d, hd, _ => by cases hd
  | h :: _, _ :: _, hr, hk, d, hd, hj => by
    rcases List.mem_cons.1 hd with rfl | hd
    · obtain ⟨h1, h2, a, h3, h4, h5⟩ := hr.1
      rw [h1] at hj
      simp only [Bool.and_eq_true] at hj
      rw [h5]
      exact (light_sound h2 hrel h3 (hk.1 hj.1)).1
    · exact HeldsR.met hrel hr.2 hk.2 d hd hj
  | [], _ :: _, h, _, _, _, _ => h.elim
  | _ :: _, [], h, _, _, _, _ => h.elim

theorem pickL1_spec {ops : Array Oper} {ms : List Nat} {listed : Array Bool} {rs : List Nat} {i : Nat} {o : Oper} {r : Bool} (h : pickL1 P ops ms listed rs = some (i, o, r)) :
    i ∈ rs ∧ ops[i]? = some o ∧ kindO P o.op = some r ∧ freeL ops ms listed i o = true := by
  unfold pickL1 at h
  obtain ⟨k, hk, h⟩ := List.exists_of_findSome?_eq_some h
  split at h
  · rename_i o' ho
    split at h
    · rename_i r' hr
      split at h
      · rename_i hf
        cases h
        exact ⟨hk, ho, hr, hf⟩
      · cases h
    · cases h
  · cases h
theorem freeL_spec {ops : Array Oper} {listed : Array Bool} {i : Nat} {o : Oper} (h : freeL ops (masks ops.toList []) listed i o = true) :
    ∀ j oj, ops[j]? = some oj → j ≠ i → listed.getD j true = false → ((masks ops.toList []).getD j 0).testBit i = false → o.apart ops oj = true := by
  intro j oj hoj hne hun hno
  have hj : j < ops.size := (Array.getElem?_eq_some_iff.1 hoj).1
  have := List.all_eq_true.1 h j (List.mem_range.2 hj)
  rw [hoj] at this
  simp only [Bool.or_eq_true, beq_iff_eq, hun, conc, hno] at this
  simpa [hne] using this
theorem allL_spec : ∀ {l : List Nat} {f : Nat → Prop}, allL l f → ∀ i ∈ l, f i
  | _ :: _, _, h, i, hi => by
    rcases List.mem_cons.1 hi with rfl | hi
    · exact h.1
    · exact allL_spec h.2 i hi
  | [], _, _, _, hi => by cases hi

theorem light_put {N : Nat} {o : Oper} {v : LV} {st : LSt} {a : Act} (hd : dstOK N o = true) (h : SRel lo W keep ρ N st a w) (hv : v.ok ρ st.g.next) : SRel lo W keep ρ N ⟨putL st.tm o.dst v, st.g⟩ (a.put o.dst (v.toV ρ)) w :=
  h.put hd (Post.same h.rel hv)

theorem draw_sound {N : Nat} {ops : Array Oper} {Q : Exit → Act → World → Prop} (hfine : ∀ o ∈ ops.toList, fineOp o = true ∧ dstOK N o = true) (hsel : ∀ (j : Nat) (o : Oper), ops[j]? = some o → (∀ cs b, o.op ≠ .select cs b) ∧ ∀ c, o.op ≠ .defer c) (hQ : ∀ c a w, ¬ Q (.panic c) a w) :
    ∀ (fuel : Nat) (listed : Array Bool) (D : List Held) (ds : List ((Nat → Bool) × (World → Prop))) (st : LSt) (a : Act) (w : World) (ρ : Ren) (K : LSt → Prop),
      SRel lo W keep ρ N st a w → Down ops listed → HeldsR P ops (masks ops.toList []) ρ st.g.next D ds → drawL P (Ok P) ops (masks ops.toList []) fuel listed D st K →
      (∀ a w, Later lo W keep ρ N st.g.next K a w → Q .normal a w) → wpAnyD ro P ops (lightAt P ops) Q ds fuel listed a w := by
  intro fuel
  induction fuel with
  | zero =>
    intro listed D ds st a w ρ K h hdown hD hK hQ'
    unfold drawL at hK
    split at hK
    · rename_i hr
      exact ⟨hr, hQ' _ _ ⟨st, ρ, Ren.Ext.refl _ _, Nat.le_refl _, h, hK⟩⟩
    · exact hK.elim
  | succ fuel ih =>
    intro listed D ds st a w ρ K h hdown hD hK hQ'
    unfold drawL at hK
    split at hK
    · rename_i hr
      refine ⟨fun _ => hQ' _ _ ⟨st, ρ, Ren.Ext.refl _ _, Nat.le_refl _, h, hK⟩, fun i hi => ?_⟩
      rw [hr] at hi
      cases hi
    · rename_i r rs hr
      split at hK
      · -- a light operation
        rename_i i o reads hp
        obtain ⟨hmem, hoi, hkind, hfree⟩ := pickL1_spec hp
        have hmo : o ∈ ops.toList := by
          have := Array.mem_of_getElem? hoi
          simpa using this
        obtain ⟨hf, hdst⟩ := hfine o hmo
        have hready : i ∈ Region.ready .any ops listed := by rw [hr]; exact hmem
        have hli : lightAt P ops i = true := by simp [lightAt, hoi, hkind]
        have hfr := freeL_spec hfree
        have hdown' := down_set hdown hready
        -- it yields v whatever world keeps S; then on
        have go : ∀ (v : LV) (D' : List Held) (d : (Nat → Bool) × (World → Prop)), v.ok ρ st.g.next → YieldsIf P ops d.2 o (v.toV ρ) a → d.2 w →
            (∀ j o', ops[j]? = some o' → lightAt P ops j = false → ((masks ops.toList []).getD j 0).testBit i = false → d.1 j = true) →
            (wpAnyD ro P ops (lightAt P ops) Q (d :: ds) fuel (listed.setIfInBounds i true) (a.put o.dst (v.toV ρ)) w) → wpAnyD ro P ops (lightAt P ops) Q ds (fuel + 1) listed a w := by
          intro v D' d hv hy hS hc H
          exact takeFirst (c := d.1) (S := d.2) hoi hsel (fun c a' w' hq => (hQ _ _ _ hq).elim) hc fuel listed ds a w (HeldsR.fst hli hD) hdown hfr hready hy hS H
        have plain : ∀ (v : LV), v.ok ρ st.g.next → (∀ w', YieldsIf P ops (fun u => u = w') o (v.toV ρ) a) → drawL P (Ok P) ops (masks ops.toList []) fuel (listed.setIfInBounds i true) D ⟨putL st.tm o.dst v, st.g⟩ K →
            wpAnyD ro P ops (lightAt P ops) Q ds (fuel + 1) listed a w := by
          intro v hv hy hk
          have hy' : YieldsIf P ops (fun _ => True) o (v.toV ρ) a := by
            rcases hy w with ⟨h1, h2⟩ | ⟨h1, h2⟩
            · refine .inl ⟨h1, fun w' _ => ?_⟩
              rcases hy w' with ⟨_, h3⟩ | ⟨h3, _⟩
              · exact h3 w' rfl
              · rw [h1] at h3; cases h3
            · exact .inr ⟨h1, h2⟩
          refine go v D (fun _ => true, fun _ => True) hv hy' trivial (fun _ _ _ _ _ => rfl) ?_
          have H := ih (listed.setIfInBounds i true) D ds ⟨putL st.tm o.dst v, st.g⟩ (a.put o.dst (v.toV ρ)) w ρ K (light_put hdst h hv) hdown' hD hk hQ'
          exact wpAnyD_more (fun _ _ => trivial) _ _ _ _ H
        have held : ∀ (v : LV) (tm : Nat → LV), tm = st.tm → lightV P tm o.op st.g = some v → Region.wanted o (yielded ops a.tmps) = true →
            drawL P (Ok P) ops (masks ops.toList []) fuel (listed.setIfInBounds i true) (if reads then ⟨i, o, tm, v⟩ :: D else D) ⟨putL tm o.dst v, st.g⟩ K →
            wpAnyD ro P ops (lightAt P ops) Q ds (fuel + 1) listed a w := by
          intro v tm htm hv hw hk
          subst htm
          have hl := light_sound hf h.rel h.tm hv
          cases reads with
          | false =>
            refine plain v hl.2 (fun w' => .inl ⟨hw, fun u hu => ?_⟩) (by simpa using hk)
            subst hu
            exact (pure_sound hf h.rel hkind h.tm hv u).1
          | true =>
            simp only [if_true] at hk
            refine go v D ((fun j => conc (masks ops.toList []) i j && !(lightAt P ops j)), fun w => (execOp a.eval o).run P w = .ok (.value (v.toV ρ)) w) hl.2 (.inl ⟨hw, fun u hu => hu⟩) hl.1 (fun j o' _ hlj hb => by simp [conc, hlj, ← hb]) ?_
            have hHR : HeldR P ops (masks ops.toList []) ρ st.g.next ⟨i, o, st.tm, v⟩ ((fun j => conc (masks ops.toList []) i j && !(lightAt P ops j)), fun w => (execOp a.eval o).run P w = .ok (.value (v.toV ρ)) w) := ⟨rfl, hf, a, h.tm, hl.2, rfl⟩
            have hDD : HeldsR P ops (masks ops.toList []) ρ st.g.next (⟨i, o, st.tm, v⟩ :: D) (((fun j => conc (masks ops.toList []) i j && !(lightAt P ops j)), fun w => (execOp a.eval o).run P w = .ok (.value (v.toV ρ)) w) :: ds) := ⟨hHR, hD⟩
            exact ih (listed.setIfInBounds i true) _ (((fun j => conc (masks ops.toList []) i j && !(lightAt P ops j)), fun w => (execOp a.eval o).run P w = .ok (.value (v.toV ρ)) w) :: ds) ⟨putL st.tm o.dst v, st.g⟩ (a.put o.dst (v.toV ρ)) w ρ K (light_put hdst h hl.2) hdown'
              hDD hk hQ'
        have skip : Region.wanted o (yielded ops a.tmps) = false → drawL P (Ok P) ops (masks ops.toList []) fuel (listed.setIfInBounds i true) D ⟨putL st.tm o.dst undefL, st.g⟩ K →
            wpAnyD ro P ops (lightAt P ops) Q ds (fuel + 1) listed a w := fun hw hk => plain undefL (undef_ok _ _) (fun _ => .inr ⟨hw, rfl⟩) hk
        unfold lightStep at hK
        split at hK
        · rename_i hg
          obtain ⟨v, hv, hk⟩ := vK_elim hK
          exact held v st.tm rfl hv (by simp [Region.wanted, hg]) hk
        · rename_i j want hg
          split at hK
          · exact hK.elim
          · rename_i d hdj
            split at hK
            · rename_i hb
              have hw := wanted_of h.tm hg hdj hb
              rw [putL_same hb] at hK
              cases want with
              | true =>
                obtain ⟨v, hv, hk⟩ := vK_elim (by simpa using hK)
                exact held v _ rfl hv (by rw [hw]; rfl) hk
              | false => exact skip (by rw [hw]; rfl) (by simpa using hK)
            · rename_i hb
              have hw := wanted_of h.tm hg hdj hb
              rw [putL_same hb] at hK
              cases want with
              | true => exact skip (by rw [hw]; rfl) (by simpa using hK)
              | false =>
                obtain ⟨v, hv, hk⟩ := vK_elim (by simpa using hK)
                exact held v _ rfl hv (by rw [hw]; rfl) hk
            · rename_i hb
              exact skip (wanted_undef h.tm hg hdj hb) hK
            · exact hK.elim
      · -- whichever comes up
        refine ⟨fun e => (by rw [hr] at e; cases e), fun i hi => ?_⟩
        have hK := allL_spec hK i (by rw [← hr]; exact hi)
        split at hK
        · rename_i o ho
          have hmo : o ∈ ops.toList := by
            have := Array.mem_of_getElem? ho
            simpa using this
          obtain ⟨hf, hdst⟩ := hfine o hmo
          split at hK
          · exact hK.elim
          · rename_i hkind
            have hli : lightAt P ops i = false := by simp [lightAt, ho, hkind]
            refine wpOpIn_mono ?_ (step_sound ho hf hdst h hK)
            rintro a' w' ⟨st', ρ', h1, h2, h3, h4, h5⟩
            have hD' := hD.ext h1 h2
            refine ⟨fun e => (by rw [hli] at e; cases e), fun d hd hdi => hD'.met h3.rel h4 d hd hdi, ?_⟩
            exact ih (listed.setIfInBounds i true) D ds st' a' w' ρ' K h3 (down_set hdown hi) hD' h5 (fun a'' w'' hl => hQ' _ _ (hl.trans h1 h2))
        · exact hK.elim


theorem draw_region_sound {N id : Nat} {ops : Array Oper} {Q : Exit → Act → World → Prop} {st : LSt} {a : Act} {K : LSt → Prop} (hm : P.follows .mixedOrders = true) (hfine : ∀ o ∈ ops.toList, fineOp o = true ∧ dstOK N o = true)
    (hsel : ∀ (j : Nat) (o : Oper), ops[j]? = some o → (∀ cs b, o.op ≠ .select cs b) ∧ ∀ c, o.op ≠ .defer c) (hQ : ∀ c a w, ¬ Q (.panic c) a w) (h : SRel lo W keep ρ N st a w)
    (hK : drawL P (Ok P) ops (masks ops.toList []) ops.size (Array.replicate ops.size false) [] st K) (hQ' : ∀ a w, Later lo W keep ρ N st.g.next K a w → Q .normal a w) : (Code.region id ops true).wpIn (wideR ro) 0 P Q a w := by
  refine wpIn_region_any hm (wpAny_of_D (D := []) (L := lightAt P ops) _ _ _ _ ?_)
  refine draw_sound hfine hsel hQ ops.size _ [] [] st a _ ρ K ⟨h.rel.drawn, h.tm, h.size, h.defers⟩ ?_ trivial hK hQ'
  intro j o hj hl
  exfalso
  rw [Array.getD_eq_getD_getElem?, Array.getElem?_replicate] at hl
  split at hl <;> simp at hl

end Go.Lm

/-
  The logical machine, part Q: code, and functions.
-/
namespace Go.Lm

variable {P : Program} {W : World} {keep : Nat → Prop} {ρ : Ren} {g : LHeap} {w : World} {lo : Nat}

def exitL (id : Nat) (K : LEx → LSt → Prop) : LEx → LSt → Prop := fun e st =>
  match e with
  | .exit id' => if Nat.beq id' id then K .normal st else K (.exit id') st
  | e => K e st
def thenL (k : LSt → Prop) (K : LEx → LSt → Prop) : LEx → LSt → Prop := fun e st =>
  match e with
  | .normal => k st
  | e => K e st
/-- A range over a function is left: by the jump that a round has left behind. -/
def leaveL (a : Nat) (tm : Nat → LV) (g : LHeap) (K : LEx → LSt → Prop) : Prop :=
  match g.get a with
  | some (.loop r) => r.state ≠ .busy ∧ match r.pending with
    | none => K .normal ⟨tm, g.erase a⟩
    | some (.exit id) => K (.exit id) ⟨tm, g.erase a⟩
    | some .ret => K .ret ⟨tm, g.erase a⟩
    | _ => False
  | _ => False
/-- What a piece of code does. -/
def codeL (P : Program) (C : CallSem) : Code → LSt → (LEx → LSt → Prop) → Prop
  | .skip, st, K => K .normal st
  | .region _ ops true, st, K => drawL P C ops (masks ops.toList []) ops.size (Array.replicate ops.size false) [] st (K .normal)
  | .region _ ops false, st, K => runL P C ops ops.toList st (K .normal)
  | .seq a b, st, K => codeL P C a st (thenL (fun st' => codeL P C b st' K) K)
  | .cond c a b, st, K =>
    match evL st.tm c with
    | .bool true => codeL P C a st K
    | .bool false => codeL P C b st K
    | _ => False
  | .block id b, st, K => codeL P C b st (exitL id K)
  | .loop b, st, K => loopL (codeL P C b) st K
  | .exit id, st, K => K (.exit id) st
  | .ret, st, K => K .ret st
  | .scope b, st, K => codeL P C b st K
  | .label _, st, K => K .normal st
  | .rangeFunc f ps asg body, st, K =>
    match evL st.tm f with
    | .func (.func fid) first caps => C fid (first ++ [.yield st.g.next] ++ caps) (st.g.alloc (.loop ⟨.ready, none, st.tm, ps, asg, body⟩)) fun _ g' => leaveL st.g.next st.tm g' K
    | _ => False
  | _, _, _ => False

/-- W' is W, and more is kept. -/
structure Wider (W : World) (keep : Nat → Prop) (W' : World) (keep' : Nat → Prop) : Prop where
  os : W'.os = W.os
  tape : W'.tape = W.tape
  output : W'.output = W.output
  size : W.heap.size ≤ W'.heap.size
  more : ∀ b, keep b → keep' b
  kept : ∀ b, keep b → b < W.heap.size ∧ W'.heap[b]? = W.heap[b]?
theorem Wider.refl (h : Rel W keep ρ g w) : Wider W keep W keep := ⟨rfl, rfl, rfl, Nat.le_refl _, fun _ h => h, fun b hb => ⟨(h.kept b hb).1, rfl⟩⟩
theorem Wider.trans {W1 W2 : World} {k1 k2 : Nat → Prop} (h : Wider W keep W1 k1) (k : Wider W1 k1 W2 k2) : Wider W keep W2 k2 :=
  ⟨k.os.trans h.os, k.tape.trans h.tape, k.output.trans h.output, Nat.le_trans h.size k.size, fun b hb => k.more b (h.more b hb), fun b hb => ⟨(h.kept b hb).1, (k.kept b (h.more b hb)).2.trans (h.kept b hb).2⟩⟩
theorem Rel.narrow {W1 : World} {k1 : Nat → Prop} (x : Wider W keep W1 k1) (h : Rel W1 k1 ρ g w) : Rel W keep ρ g w :=
  ⟨h.os.trans x.os, h.tape.trans x.tape, h.output.trans x.output, Nat.le_trans x.size h.size, fun b hb => ⟨(x.kept b hb).1, (h.kept b (x.more b hb)).2.trans (x.kept b hb).2⟩, h.obj, h.inj, fun i o hi hm hk => h.mine i o hi hm (x.more _ hk)⟩

/-- What holds behind the code, in the world. -/
def LaterW (lo : Nat) (W : World) (keep : Nat → Prop) (ρ : Ren) (N n : Nat) (K : LSt → Prop) : Act → World → Prop := fun a w => ∃ W' keep', Wider W keep W' keep' ∧ Later lo W' keep' ρ N n K a w
theorem LaterW.mono {N n : Nat} {K K' : LSt → Prop} {a : Act} {w : World} (h : LaterW lo W keep ρ N n K a w) (hk : ∀ st, K st → K' st) : LaterW lo W keep ρ N n K' a w := by
  obtain ⟨W', k', x, h⟩ := h
  exact ⟨W', k', x, h.mono hk⟩
theorem LaterW.trans {N n m : Nat} {ρ1 : Ren} {W1 : World} {k1 : Nat → Prop} {K : LSt → Prop} {a : Act} {w : World} (x : Wider W keep W1 k1) (hx : Ren.Ext n ρ ρ1) (hnm : n ≤ m) (h : LaterW lo W1 k1 ρ1 N m K a w) : LaterW lo W keep ρ N n K a w := by
  obtain ⟨W', k', y, h⟩ := h
  exact ⟨W', k', x.trans y, h.trans hx hnm⟩
def QOf (lo : Nat) (W : World) (keep : Nat → Prop) (ρ : Ren) (N n : Nat) (K : LEx → LSt → Prop) : Exit → Act → World → Prop
  | .normal, a, w => LaterW lo W keep ρ N n (K .normal) a w
  | .exit id, a, w => LaterW lo W keep ρ N n (K (.exit id)) a w
  | .ret, a, w => LaterW lo W keep ρ N n (K .ret) a w
  | _, _, _ => False

theorem QOf.trans {N n m : Nat} {ρ1 : Ren} {W1 : World} {k1 : Nat → Prop} {K : LEx → LSt → Prop} {e : Exit} {a : Act} {w : World} (x : Wider W keep W1 k1) (hx : Ren.Ext n ρ ρ1) (hnm : n ≤ m) (h : QOf lo W1 k1 ρ1 N m K e a w) : QOf lo W keep ρ N n K e a w := by
  cases e <;> first | exact LaterW.trans x hx hnm h | exact h
theorem SRel.later {N : Nat} {st : LSt} {a : Act} {K : LSt → Prop} (h : SRel lo W keep ρ N st a w) (hK : K st) : LaterW lo W keep ρ N st.g.next K a w := ⟨W, keep, Wider.refl h.rel, st, ρ, Ren.Ext.refl _ _, Nat.le_refl _, h, hK⟩

theorem wpIn_loop_ghost {F : Fence} {n : Nat} {S : Type} {c : Code} {Q : Exit → Act → World → Prop} (R : S → Act → World → Prop) (μ : S → Nat) {a : Act} {w : World} (s0 : S) (h₀ : R s0 a w)
    (round : ∀ s a w, R s a w → c.wpIn F n P (Exit.then (fun a' w' => ∃ s', R s' a' w' ∧ μ s' < μ s) Q) a w) : (Code.loop c).wpIn F n P Q a w := by
  intro b k cs hro hb hr
  have key : ∀ j s a w, μ s = j → R s a w →
      ∃ e a' w', Q e a' w' ∧ ArrivesIn (Machine.fenced P F) P (lone (b.atR a (.code c :: .inLoop c :: k)) cs w) b k cs e a' w' := by
    intro j
    induction j using Nat.strongRecOn with
    | _ j ih =>
      intro s a w hn hI
      obtain ⟨e, a₁, w₁, hq, harr⟩ := round s a w hI b (.inLoop c :: k) cs hro hb hr
      cases e with
      | normal =>
        obtain ⟨s', hI₁, hlt⟩ := hq
        obtain ⟨e₂, a₂, w₂, hq₂, harr₂⟩ := ih (μ s') (hn ▸ hlt) s' a₁ w₁ rfl hI₁
        exact ⟨e₂, a₂, w₂, hq₂, .of_steps (StepsIn.trans harr (.one (fenced_calm hb hr rfl) stepR_inLoop)) harr₂⟩
      | exit id => exact ⟨_, a₁, w₁, hq, .pass (x := .inLoop c) rfl (fun _ _ => .inl (by simp)) harr⟩
      | goto l => exact ⟨_, a₁, w₁, hq, .pass (x := .inLoop c) rfl (fun _ _ => .inl (by simp)) harr⟩
      | ret => exact ⟨_, a₁, w₁, hq, .pass (x := .inLoop c) rfl (fun _ _ => .inl (by simp)) harr⟩
      | panic ch => exact ⟨_, a₁, w₁, hq, .pass (x := .inLoop c) rfl (fun _ _ => .inl (by simp)) harr⟩
      | outgrown => exact ⟨_, a₁, w₁, hq, .pass (x := .inLoop c) rfl (fun _ _ => .inl (by simp)) harr⟩
  obtain ⟨e, a', w', hq, harr⟩ := key _ s0 a w rfl h₀
  exact ⟨e, a', w', hq, .of_steps (.one (fenced_calm hb hr rfl) stepR_loop) harr⟩
theorem wpIn_scope {F : Fence} {n : Nat} {c : Code} {Q : Exit → Act → World → Prop} {a : Act} {w : World} (h : c.wpIn F n P (Exit.noGoto Q) a w) : (Code.scope c).wpIn F n P Q a w := by
  intro b k cs hro hb hr
  have s1 : step P (lone (b.atR a (.code (.scope c) :: k)) cs w) = .next (lone (b.atR a (.code c :: .inScope c :: k)) cs w) := step_lone_go (by simp [stepG, stepG.exec, Frame.atR])
  have s2 : ∀ a w, step P (lone (b.atR a (.inScope c :: k)) cs w) = .next (lone (b.atR a k) cs w) := fun a w => step_lone_go (by simp [stepG, stepG.exec, Frame.atR])
  have h0 : (lone (b.atR a (.code (.scope c) :: k)) cs w).fenced P F := fenced_calm hb hr rfl
  obtain ⟨e, a₁, w₁, hq, harr⟩ := h b (.inScope c :: k) cs hro hb hr
  have hx : ∀ id, exitTo id (.inScope c :: k) = exitTo id k := fun id => by simp [exitTo]
  cases e with
  | normal => exact ⟨.normal, a₁, w₁, hq, .head h0 s1 (StepsIn.trans harr (.one (fenced_calm hb hr rfl) (s2 _ _)))⟩
  | exit id => exact ⟨.exit id, a₁, w₁, hq, fun k' hk => .head h0 s1 (harr.1 k' (by rw [hx]; exact hk)), fun hr' hk => let ⟨k₁, h1, h2⟩ := harr.2 hr' (by rw [hx]; exact hk); ⟨k₁, h1, .head h0 s1 h2⟩⟩
  | goto l => exact hq.elim
  | ret => exact ⟨_, a₁, w₁, hq, .of_steps (.one h0 s1) harr⟩
  | panic ch => exact ⟨_, a₁, w₁, hq, .of_steps (.one h0 s1) harr⟩
  | outgrown => exact ⟨_, a₁, w₁, hq, .of_steps (.one h0 s1) harr⟩

theorem fineOps_spec {N : Nat} {ops : Array Oper} (h : fineOps N ops = true) : (∀ o ∈ ops.toList, fineOp o = true ∧ dstOK N o = true) ∧ (∀ (j : Nat) (o : Oper), ops[j]? = some o → (∀ cs b, o.op ≠ .select cs b) ∧ ∀ c, o.op ≠ .defer c) := by
  have h1 : ∀ o ∈ ops.toList, (fineOp o = true ∧ dstOK N o = true) ∧ isSelect o.op = false := fun o ho => by
    have := List.all_eq_true.1 h o ho
    simpa only [Bool.and_eq_true, Bool.not_eq_true'] using this
  refine ⟨fun o ho => (h1 o ho).1, fun j o hj => ?_⟩
  have hm : o ∈ ops.toList := by
    have := Array.mem_of_getElem? hj
    simpa using this
  have := (h1 o hm).2
  exact ⟨fun cs b e => (by rw [e] at this; cases this), fun c e => (by rw [e] at this; cases this)⟩

/-- What is not known to the logical machine is taken out: there nothing is promised. -/
def pruneC (N : Nat) : Code → Code
  | .region id ops d => match fineOps N ops with
    | true => .region id ops d
    | false => .goto 0
  | .seq a b => .seq (pruneC N a) (pruneC N b)
  | .cond c a b => match fineO c with
    | true => .cond c (pruneC N a) (pruneC N b)
    | false => .goto 0
  | .block id b => .block id (pruneC N b)
  | .loop b => .loop (pruneC N b)
  | .scope b => .scope (pruneC N b)
  | .rangeFunc f ps a b => match fineO f && fineL N ps a b with
    | true => .rangeFunc f ps a b
    | false => .goto 0
  | c => c
theorem prune_fine {N : Nat} : ∀ (c : Code), fineC N c = true → pruneC N c = c := by
  intro c
  induction c with
  | region id ops d => intro h; have h : fineOps N ops = true := h; simp only [pruneC, h]
  | seq a b iha ihb =>
    intro h
    simp only [fineC, Bool.and_eq_true] at h
    simp only [pruneC, iha h.1, ihb h.2]
  | cond c a b iha ihb =>
    intro h
    simp only [fineC, Bool.and_eq_true] at h
    simp only [pruneC, h.1.1, iha h.1.2, ihb h.2]
  | block id b ih => intro h; simp only [pruneC, ih h]
  | loop b ih => intro h; simp only [pruneC, ih h]
  | scope b ih => intro h; simp only [pruneC, ih h]
  | rangeFunc f ps a b _ _ =>
    intro h
    have : (fineO f && fineL N ps a b) = true := by simpa only [fineC, fineL, Bool.and_assoc] using h
    simp only [pruneC, this]
  | _ => intro _; rfl

/-- The range's function is called: what the machine does there. -/
theorem range_calls {fid : FuncId} {fn : Func} {c : Code} {first caps : Array Value} {a : Act} {f : Operand} {l : Nat} {w : World} (hf : P.funcs[fid]? = some fn) (hb : fn.body = some c) (hn : (fn.name == "runtime.NumGoroutine") = false)
    (he : a.eval f = .func (.func fid) first caps) :
    ∃ d, (resolve a.eval (rangeCall f l) 0).run P w = .ok d w ∧ (invoke d.target d.args).run P w = .ok (.enter fid (first ++ #[.func (.yield l) #[] #[]] ++ caps)) w := by
  refine ⟨{ target := .fn (.func fid) caps, args := first ++ #[.func (.yield l) #[] #[]] }, ?_, ?_⟩
  · simp only [resolve, rangeCall, he, Deferred.ofValue]
    simp [Sem.run_pure, Act.eval]
  · simp only [invoke]
    exact run_callFunc hf hb hn _ _

theorem ext_no_yield {f : FuncId} {first caps : List LV} {a : Nat} : extL P f (first ++ [.yield a] ++ caps) = none := by
  unfold extL
  split
  · split
    · rfl
    · split
      · split
        · rename_i s c e
          exfalso
          have : LV.yield a ∈ first ++ [.yield a] ++ caps := by simp
          rw [e] at this
          simp at this
        · rfl
      · rfl
  · rfl

/-- A loop's record turns. -/
theorem Rel.turnLoop {i : Nat} {r : LLoop} (h : Rel W keep ρ g w) (hg : g.get i = some (.loop r)) (s : LoopState) (p : Option Code) :
    ∃ (rec : Loop), w.heap[ρ.blk i]? = some (.loop rec) ∧ rec.state = r.state ∧ rec.pending = r.pending ∧ Rel W keep ρ (g.set i (.loop { r with state := s, pending := p })) (w.putObj (ρ.blk i) (.loop { rec with state := s, pending := p })) := by
  obtain ⟨hi, h0, h1, fn, d, tmps, h2, h3, h4⟩ := h.obj i _ hg
  refine ⟨_, h4, rfl, rfl, ?_⟩
  refine h.turn hg rfl ⟨h0, h1, fn, d, tmps, h2, h3, ?_⟩
  have := (Array.getElem?_eq_some_iff.1 h4).1
  simp [this]

theorem SRel.of_rel {N : Nat} {st : LSt} {a : Act} {g' : LHeap} {w w' : World} (h : SRel lo W keep ρ N st a w) (hr : Rel W keep ρ g' w') (hn : g'.next = st.g.next) : SRel lo W keep ρ N ⟨st.tm, g'⟩ a w' :=
  ⟨hr, by rw [show (⟨st.tm, g'⟩ : LSt).g.next = st.g.next from hn]; exact h.tm, h.size, h.defers⟩

theorem prune_sound (hm : P.follows .mixedOrders = true) {N : Nat} : ∀ (c : Code) (ro : Option Nat), (ro = none ∨ flatC c = true) → ∀ (W : World) (keep : Nat → Prop) (st : LSt) (a : Act) (w : World) (ρ : Ren) (K : LEx → LSt → Prop), SRel lo W keep ρ N st a w → codeL P (Ok P) (pruneC N c) st K →
    c.wpIn (wideR ro) 0 P (QOf lo W keep ρ N st.g.next K) a w := by
  intro c
  induction c with
  | skip =>
    intro ro hro W keep st a w ρ K h hK
    exact wpIn_skip (h.later hK)
  | region id ops d =>
    intro ro hro W keep st a w ρ K h hK
    simp only [pruneC] at hK
    split at hK
    · rename_i hf
      obtain ⟨h1, h2⟩ := fineOps_spec hf
      have up : ∀ a w, Later lo W keep ρ N st.g.next (K .normal) a w → QOf lo W keep ρ N st.g.next K .normal a w := fun a w hl => ⟨W, keep, Wider.refl h.rel, hl⟩
      cases d with
      | true => exact draw_region_sound hm h1 h2 (fun _ _ _ hq => hq) h hK up
      | false => exact region_sound h1 h hK up
    · exact hK.elim
  | seq x y ihx ihy =>
    intro ro hro W keep st a w ρ K h hK
    have hro1 : ro = none ∨ flatC x = true := hro.imp id fun h => by simp only [flatC, Bool.and_eq_true] at h; exact h.1
    have hro2 : ro = none ∨ flatC y = true := hro.imp id fun h => by simp only [flatC, Bool.and_eq_true] at h; exact h.2
    refine wpIn_seq (wpIn_mono (ihx ro hro1 W keep st a w ρ _ h hK) ?_)
    intro e a' w' hq
    cases e with
    | normal =>
      obtain ⟨W', k', x, st', ρ', h1, h2, h3, h4⟩ := hq
      exact wpIn_mono (ihy ro hro2 W' k' st' a' w' ρ' K h3 h4) (fun _ _ _ hq => hq.trans x h1 h2)
    | _ => exact hq
  | cond x y z ihy ihz =>
    intro ro hro W keep st a w ρ K h hK
    have hro1 : ro = none ∨ flatC y = true := hro.imp id fun h => by simp only [flatC, Bool.and_eq_true] at h; exact h.1
    have hro2 : ro = none ∨ flatC z = true := hro.imp id fun h => by simp only [flatC, Bool.and_eq_true] at h; exact h.2
    simp only [pruneC] at hK
    split at hK
    · rename_i hf
      have hx := (ev_val h.tm x hf).1
      simp only [codeL] at hK
      split at hK
      · rename_i e; exact wpIn_cond_true (by rw [hx, e]; rfl) (ihy ro hro1 W keep st a w ρ K h hK)
      · rename_i e; exact wpIn_cond_false (by rw [hx, e]; rfl) (ihz ro hro2 W keep st a w ρ K h hK)
      · exact hK.elim
    · exact hK.elim
  | block id b ih =>
    intro ro hro W keep st a w ρ K h hK
    refine wpIn_block (wpIn_mono (ih ro hro W keep st a w ρ _ h hK) ?_)
    intro e a' w' hq
    cases e with
    | exit id' =>
      simp only [QOf, Exit.inBlock] at hq ⊢
      by_cases he : id' = id
      · subst he
        rw [if_pos rfl]
        refine LaterW.mono hq fun st hk => ?_
        simpa [exitL] using hk
      · rw [if_neg he]
        refine LaterW.mono hq fun st hk => ?_
        have : Nat.beq id' id = false := by
          cases hb : Nat.beq id' id with
          | false => rfl
          | true => exact absurd (Nat.eq_of_beq_eq_true hb) he
        simpa [exitL, this] using hk
    | _ => exact hq
  | loop b ih =>
    intro ro hro W keep st a w ρ K h hK
    obtain ⟨I, μ, hI, hr⟩ := hK
    refine wpIn_loop_ghost (S := LSt) (fun s a w => I s ∧ ∃ W' k' ρ', Wider W keep W' k' ∧ Ren.Ext st.g.next ρ ρ' ∧ st.g.next ≤ s.g.next ∧ SRel lo W' k' ρ' N s a w) μ st ⟨hI, W, keep, ρ, Wider.refl h.rel, Ren.Ext.refl _ _, Nat.le_refl _, h⟩ ?_
    rintro s a' w' ⟨hIs, W', k', ρ', x, h1, h2, h3⟩
    refine wpIn_mono (ih ro hro W' k' s a' w' ρ' _ h3 (hr s hIs)) ?_
    intro e a'' w'' hq
    cases e with
    | normal =>
      obtain ⟨W'', k'', y, s', ρ'', k1, k2, k3, k4, k5⟩ := hq
      exact ⟨s', ⟨k4, W'', k'', ρ'', x.trans y, h1.trans k1 h2, Nat.le_trans h2 k2, k3⟩, k5⟩
    | exit id => exact QOf.trans (e := .exit id) x h1 h2 hq
    | ret => exact QOf.trans (e := .ret) x h1 h2 hq
    | _ => exact hq
  | exit id =>
    intro ro hro W keep st a w ρ K h hK
    exact wpIn_exit (h.later hK)
  | ret =>
    intro ro hro W keep st a w ρ K h hK
    exact wpIn_ret (h.later hK)
  | scope b ih =>
    intro ro hro W keep st a w ρ K h hK
    refine wpIn_scope (wpIn_mono (ih ro hro W keep st a w ρ _ h hK) ?_)
    intro e a' w' hq
    cases e <;> exact hq
  | label l =>
    intro ro hro W keep st a w ρ K h hK
    exact wpIn_label (h.later hK)
  | rangeFunc f ps asg body _ _ =>
    intro ro hro W keep st a w ρ K h hK
    obtain rfl : ro = none := by
      rcases hro with h | h
      · exact h
      · cases h
    simp only [pruneC] at hK
    split at hK
    rotate_left
    · exact hK.elim
    rename_i hfine
    simp only [Bool.and_eq_true] at hfine
    simp only [codeL] at hK
    split at hK
    rotate_left
    · exact hK.elim
    rename_i fid first caps hev
    obtain ⟨hev1, hev2⟩ := ev_val h.tm f hfine.1
    rw [hev] at hev1 hev2
    simp only [LV.toV] at hev1
    simp only [LV.ok] at hev2
    obtain ⟨⟨fn, c, hf, hb, hn⟩, hC⟩ := hK
    refine wpIn_rangeFunc ?_
    intro fn0 _
    -- the two blocks
    let w0 : World := w.alloc (.deferred (some []))
    let rec0 : Loop := { state := .ready, pending := none, fn := fn0, tmps := a.tmps, params := ps, assign := asg, body := body, defers := w.heap.size }
    let w1 : World := w0.alloc (.loop rec0)
    let ρ1 : Ren := ρ.put st.g.next (w.heap.size + 1) 0 0
    let keep1 : Nat → Prop := fun b => keep b ∨ b = w.heap.size
    have sz0 : w0.heap.size = w.heap.size + 1 := World.size_alloc _ _
    have sz1 : w1.heap.size = w.heap.size + 2 := by show (w0.heap.push _).size = _; rw [Array.size_push, sz0]
    have old1 : ∀ b, b < w.heap.size → w1.heap[b]? = w.heap[b]? := fun b hb => by
      show ((w.heap.push _).push _)[b]? = _
      rw [Array.getElem?_push, if_neg (by rw [Array.size_push]; omega), Array.getElem?_push, if_neg (by omega)]
    have at0 : w1.heap[w.heap.size]? = some (.deferred (some [])) := by
      show ((w.heap.push _).push _)[w.heap.size]? = _
      rw [Array.getElem?_push, if_neg (by rw [Array.size_push]; omega), Array.getElem?_push, if_pos rfl]
    have at1 : w1.heap[w.heap.size + 1]? = some (.loop rec0) := by
      show ((w.heap.push _).push _)[w.heap.size + 1]? = _
      rw [Array.getElem?_push, if_pos (by rw [Array.size_push])]
    have hrel0 : Rel W keep ρ st.g w0 := by
      refine ⟨h.rel.os, h.rel.tape, h.rel.output, by rw [sz0]; exact Nat.le_succ_of_le h.rel.size, fun b hb => ⟨(h.rel.kept b hb).1, ?_⟩, fun i o hi => ⟨(h.rel.obj i o hi).1, (h.rel.obj i o hi).2.heap ?_⟩, h.rel.inj, h.rel.mine⟩
      · rw [← (h.rel.kept b hb).2]
        show (w.heap.push _)[b]? = _
        rw [Array.getElem?_push, if_neg (by have := (h.rel.kept b hb).1; have := h.rel.size; omega)]
      · have := (h.rel.obj i o hi).2.lt
        show (w.heap.push _)[ρ.blk i]? = _
        rw [Array.getElem?_push, if_neg (by omega)]
    let r0 : LLoop := ⟨.ready, none, st.tm, ps, asg, body⟩
    have hx1 : Ren.Ext st.g.next ρ ρ1 := Ren.put_ext _ _ _ _ _
    have hrel1 : Rel W keep ρ1 (st.g.alloc (.loop r0)) w1 := by
      have := hrel0.new (o := .loop r0) (x := .loop rec0) (cap := 0) (by
        rw [sz0]
        refine ⟨by simp, fun t => LV.ok_ext hx1 (Nat.le_succ _) _ (h.tm.ok t), fn0, w.heap.size, a.tmps, by rw [h.size]; exact hfine.2, fun t => ?_, ?_⟩
        · rw [LV.toV_ext hx1 _ (h.tm.ok t)]; exact h.tm.val t
        · rw [Ren.put_blk]; exact at1)
      rw [sz0] at this
      exact this
    have hrel : Rel w1 keep1 ρ1 (st.g.alloc (.loop r0)) w1 := by
      refine ⟨rfl, rfl, rfl, Nat.le_refl _, fun b hb => ⟨?_, rfl⟩, hrel1.obj, hrel1.inj, fun i o hi hmi hk => ?_⟩
      · rcases hb with hb | rfl
        · have := (h.rel.kept b hb).1; have := h.rel.size; omega
        · omega
      · rcases hk with hk | hk
        · exact hrel1.mine i o hi hmi hk
        · simp only [LHeap.get_alloc] at hi
          split at hi
          · rename_i e
            subst e
            rw [show ρ1.blk st.g.next = w.heap.size + 1 from by simp [ρ1]] at hk
            omega
          · have hlt := (h.rel.obj i o hi).2.lt
            rw [(hx1 i (h.rel.obj i o hi).1).1] at hk
            omega
    have wid : Wider W keep w1 keep1 := ⟨h.rel.os, h.rel.tape, h.rel.output, by rw [sz1]; have := h.rel.size; omega, fun b hb => .inl hb, fun b hb => ⟨(h.rel.kept b hb).1, by
      rw [old1 b (by have := (h.rel.kept b hb).1; have := h.rel.size; omega)]; exact (h.rel.kept b hb).2⟩⟩
    obtain ⟨d, hd1, hd2⟩ := range_calls (P := P) (f := f) (l := w.heap.size + 1) (w := w1) hf hb hn hev1
    have hargs : (toVs ρ first).toArray ++ #[.func (.yield (w.heap.size + 1)) #[] #[]] ++ (toVs ρ caps).toArray = (toVs ρ1 (first ++ [.yield st.g.next] ++ caps)).toArray := by
      rw [toVs_append, toVs_append, toVs_ext hx1 _ hev2.1, toVs_ext hx1 _ hev2.2]
      simp [toVs, LV.toV, ρ1]
    rw [hargs] at hd2
    have hok : oks ρ1 (st.g.alloc (.loop r0)).next (first ++ [.yield st.g.next] ++ caps) :=
      oks_append.2 ⟨oks_append.2 ⟨oks_ext hx1 (Nat.le_succ _) _ hev2.1, by simp [oks, LV.ok]⟩, oks_ext hx1 (Nat.le_succ _) _ hev2.2⟩
    refine ⟨w.heap.size + 1, [markD w.heap.size], w1, d, w1, fid, _, w1, run_enterLoop_outer _ _ _ _ _, hd1, fun _ _ => trivial, hd2, fun h => (by cases h), ?_⟩
    refine (callsIn_wide (n := 0)).2 ((hC w1 keep1 ρ1 w1 hrel hok).mono ?_)
    rintro e w3 ⟨v, g', ρ', rfl, hp, hv⟩
    have hbl : ρ'.blk st.g.next = w.heap.size + 1 := by rw [(hp.ext st.g.next (Nat.lt_succ_self _)).1]; simp [ρ1]
    have hx2 : Ren.Ext st.g.next ρ ρ' := hx1.trans (hp.ext.mono (Nat.le_succ _)) (Nat.le_refl _)
    have hle : st.g.next ≤ g'.next := Nat.le_trans (Nat.le_succ _) hp.le
    unfold leaveL at hv
    split at hv
    rotate_left
    · exact hv.elim
    rename_i r hr
    obtain ⟨rec, e1, e2, e3, e4⟩ := hp.rel.turnLoop hr .exhausted r.pending
    rw [hbl] at e1 e4
    have hend := run_endLoop (P := P) e1 (by rw [e2]; exact hv.1)
    have e5 : { rec with state := LoopState.exhausted } = { rec with state := LoopState.exhausted, pending := r.pending } := by rw [← e3]
    rw [e5] at hend
    have hrel4 : Rel w1 keep1 ρ' (g'.erase st.g.next) (w3.putObj (w.heap.size + 1) (.loop { rec with state := LoopState.exhausted, pending := r.pending })) := by
      have h9 := e4.erase (i := st.g.next)
      have e9 : (g'.set st.g.next (.loop { r with state := .exhausted, pending := r.pending })).erase st.g.next = g'.erase st.g.next := LHeap.ext (fun j => by simp only [LHeap.get_erase, LHeap.get_set]; split <;> rfl) rfl
      rw [e9] at h9
      exact h9
    have hS : SRel lo w1 keep1 ρ' N ⟨st.tm, g'.erase st.g.next⟩ { a with defers := [markD w.heap.size] ++ a.defers } (w3.putObj (w.heap.size + 1) (.loop { rec with state := LoopState.exhausted, pending := r.pending })) := by
      refine ⟨hrel4, h.tm.ext hx2 hle, h.size, ?_⟩
      obtain ⟨hlo, rs, hnd, hds, hrs⟩ := h.defers
      have hsz := h.rel.size
      refine ⟨by omega, w.heap.size :: rs, List.nodup_cons.2 ⟨fun hmem => ?_, hnd⟩, by rw [List.map_cons]; show markD w.heap.size :: a.defers = _; rw [hds], fun r hr => ?_⟩
      · have := (h.rel.kept _ (hrs _ hmem).2.1).1
        omega
      · rcases List.mem_cons.1 hr with rfl | hr
        · exact ⟨by omega, .inr rfl, at0⟩
        · obtain ⟨k1, k2, k3⟩ := hrs r hr
          have := h.rel.kept r k2
          exact ⟨k1, .inl k2, by rw [old1 r (by omega), this.2, k3]⟩
    have fin : ∀ {K' : LSt → Prop}, K' ⟨st.tm, g'.erase st.g.next⟩ → LaterW lo W keep ρ N st.g.next K' { a with defers := [markD w.heap.size] ++ a.defers } (w3.putObj (w.heap.size + 1) (.loop { rec with state := LoopState.exhausted, pending := r.pending })) := fun hk =>
      ⟨w1, keep1, wid, _, ρ', hx2, hle, hS, hk⟩
    refine ⟨_, _, hend, ?_⟩
    rw [e3]
    have hv2 := hv.2
    split at hv2
    · rename_i e; rw [e] at fin ⊢; exact fin hv2
    · rename_i e; rw [e] at fin ⊢; exact wpIn_exit (fin hv2)
    · rename_i e; rw [e] at fin ⊢; exact wpIn_ret (fin hv2)
    · exact hv2.elim
  | _ => intro ro hro W keep st a w ρ K h hK; exact hK.elim
theorem code_sound (hm : P.follows .mixedOrders = true) {N : Nat} (c : Code) (ro : Option Nat) (hro : ro = none ∨ flatC c = true) (W : World) (keep : Nat → Prop) (st : LSt) (a : Act) (w : World) (ρ : Ren) (K : LEx → LSt → Prop) (hf : fineC N c = true) (h : SRel lo W keep ρ N st a w) (hK : codeL P (Ok P) c st K) :
    c.wpIn (wideR ro) 0 P (QOf lo W keep ρ N st.g.next K) a w :=
  prune_sound hm c ro hro W keep st a w ρ K h (by rw [prune_fine c hf]; exact hK)

/-! ### A function -/
def startL (args : List LV) : Nat → LV := fun i => args.getD i undefL
def resL (P : Program) (tm : Nat → LV) (g : LHeap) : List ResultVar → Option (List LV)
  | [] => some []
  | .tmp t :: rs => match resL P tm g rs with
    | some vs => some (tm t :: vs)
    | none => none
  | .cell a t :: rs => match loadT P t (tm a) g, resL P tm g rs with
    | some v, some vs => some (v :: vs)
    | _, _ => none
def oneL : List LV → LV
  | [v] => v
  | vs => .tuple vs
def endL (P : Program) (fn : Func) (K : LV → LHeap → Prop) : LEx → LSt → Prop := fun e st =>
  match e with
  | .exit _ => False
  | _ => match resL P st.tm st.g fn.results.toList with
    | some vs => K (oneL vs) st.g
    | none => False

theorem oneL_toV (ρ : Ren) (vs : List LV) : (oneL vs).toV ρ = (if h : (toVs ρ vs).toArray.size = 1 then (toVs ρ vs).toArray[0] else .tuple (toVs ρ vs).toArray) := by
  match vs with
  | [] => simp [oneL, toVs, LV.toV]
  | [v] => simp [oneL, toVs]
  | v :: u :: vs => simp [oneL, toVs, LV.toV]
theorem oneL_ok {n : Nat} {vs : List LV} (h : oks ρ n vs) : (oneL vs).ok ρ n := by
  match vs with
  | [] => simp [oneL, LV.ok, oks]
  | [v] => exact h.1
  | v :: u :: vs => simpa only [oneL, LV.ok] using h
theorem res_sound {tm : Nat → LV} {tmps : Array Value} (h : Rel W keep ρ g w) (ht : TRel ρ g.next tm tmps) : ∀ (rs : List ResultVar) (vs : List LV), resL P tm g rs = some vs →
    (rs.mapM (m := Sem) fun
      | .tmp t => pure (tmps.getD t undef)
      | .cell a t => do loadVar t (← asAddr (tmps.getD a undef))).run P w = .ok (toVs ρ vs) w ∧ oks ρ g.next vs := by
  intro rs
  induction rs with
  | nil => intro vs hv; simp [resL] at hv; subst hv; exact ⟨rfl, by simp [oks]⟩
  | cons r rs ih =>
    intro vs hv
    rw [List.mapM_cons]
    cases r with
    | tmp t =>
      simp only [resL] at hv
      split at hv
      · rename_i us hus
        cases hv
        obtain ⟨h1, h2⟩ := ih us hus
        refine ⟨?_, ht.ok t, h2⟩
        rw [run_bind_ok (run_pure P _ w), run_bind_ok h1]
        simp only [toVs, ht.val t]
        rfl
      · cases hv
    | cell a t =>
      simp only [resL] at hv
      split at hv
      · rename_i v us hv1 hus
        cases hv
        obtain ⟨h1, h2⟩ := ih us hus
        obtain ⟨r1, r2⟩ := sim_load (P := P) h hv1
        refine ⟨?_, r2, h2⟩
        have hp : ∃ b off, tm a = .ptr b off := by
          unfold loadT at hv1
          split at hv1
          · unfold loadV at hv1
            split at hv1
            · rename_i e; exact ⟨_, _, e⟩
            · cases hv1
          · cases hv1
        obtain ⟨b, off, e⟩ := hp
        have r1' : (do loadVar t (← asAddr (tmps.getD a undef)) : Sem Value).run P w = .ok (v.toV ρ) w := by
          rw [ht.val a, e]
          rw [e] at r1
          exact r1
        rw [run_bind_ok r1', run_bind_ok h1]
        rfl
      · cases hv

theorem no_deferred {n : Nat} {i : Nat} {o : LObj} {x : Option (List Deferred)} (h : ObjR ρ n w i o) : w.heap[ρ.blk i]? ≠ some (.deferred x) := by
  intro e
  cases o <;> simp only [ObjR] at h
  · obtain ⟨_, _, C, ty, fz, h, _⟩ := h; rw [h] at e; cases e
  · rw [h.2] at e; cases e
  · rw [h.2] at e; cases e
  · rw [h.2.2] at e; cases e
  · obtain ⟨_, _, _, _, _, _, _, h⟩ := h; rw [h] at e; cases e
/-- A function leaves with marks alone. -/
theorem leaves_marks {fn : Func} {tmps : Array Value} {R : Ending → World → Prop} : ∀ (rs : List Nat) (w : World), rs.Nodup → (∀ r ∈ rs, w.heap[r]? = some (.deferred (some []))) →
    (∀ w', w'.os = w.os → w'.tape = w.tape → w'.output = w.output → w'.heap.size = w.heap.size → (∀ b, b ∉ rs → w'.heap[b]? = w.heap[b]?) → ∃ v, (results fn tmps).run P w' = .ok v w' ∧ R (.returned v) w') →
    LeavesInM Fence.wide 0 P fn tmps R (rs.map markD) .returning w
  | [], w, _, _, h => h w rfl rfl rfl rfl fun _ _ => rfl
  | r :: rs, w, hn, hr, h => by
    rw [List.nodup_cons] at hn
    refine ⟨by simp, .inl ⟨r, _, rfl, run_takeDeferred (hr r (List.mem_cons_self ..)), ?_⟩⟩
    have hne : ∀ b, b ≠ r → (w.putObj r (.deferred none)).heap[b]? = w.heap[b]? := fun b hb => World.putObj_heap_other hb
    refine leaves_marks rs _ hn.2 (fun r' hr' => ?_) fun w' h1 h2 h3 h4 h5 => h w' h1 h2 h3 (h4.trans World.putObj_size) fun b hb => ?_
    · rw [hne r' (fun e => hn.1 (e ▸ hr'))]
      exact hr r' (List.mem_cons_of_mem _ hr')
    · rw [List.mem_cons, not_or] at hb
      rw [h5 b hb.2, hne b hb.1]

/-- A function's contract, out of what its body does. -/
theorem ok_of_prune {f : FuncId} {fn : Func} {c : Code} {args : List LV} {K : LV → LHeap → Prop} (hm : P.follows .mixedOrders = true) (hf : P.funcs[f]? = some fn) (hb : fn.body = some c) (hn : (fn.name == "runtime.NumGoroutine") = false)
    (hlen : args.length ≤ fn.ntmps) (hK : codeL P (Ok P) (pruneC fn.ntmps c) ⟨startL args, g⟩ (endL P fn K)) : Ok P f args g K := by
  refine ⟨⟨fn, c, hf, hb, hn⟩, fun W keep ρ w h hargs => ?_⟩
  refine (callsIn_wide (n := 0)).1 (callsIn_of_wp_marks hf hb trivial ?_ rfl)
  have hst : SRel W.heap.size W keep ρ fn.ntmps ⟨startL args, g⟩ { tmps := (toVs ρ args).toArray ++ Array.replicate (fn.ntmps - (toVs ρ args).toArray.size) undef, defers := [] } w := by
    refine ⟨h, ⟨fun t => ?_, fun t => ?_⟩, ?_, Nat.le_refl _, [], List.nodup_nil, rfl, fun r hr => by cases hr⟩
    · simp only [startL]
      rw [Array.getD_eq_getD_getElem?, List.getD_eq_getElem?_getD]
      by_cases ht : t < args.length
      · rw [Array.getElem?_append_left (by simp [toVs_length]; exact ht)]
        simp [toVs_getElem?, List.getElem?_eq_getElem ht]
      · rw [Array.getElem?_append_right (by simp [toVs_length]; omega), Array.getElem?_replicate]
        rw [List.getElem?_eq_none (by omega)]
        split <;> rfl
    · simp only [startL, List.getD_eq_getElem?_getD]
      cases ha : args[t]? with
      | none => exact undef_ok _ _
      | some v => exact (oks_iff _ _ _).1 hargs v (List.mem_of_getElem? ha)
    · simp [toVs_length]; omega
  refine wpIn_mono (prune_sound hm c none (.inl rfl) W keep _ _ _ ρ _ hst hK) ?_
  intro e a' w' hq
  have fin : ∀ e', (e' = .normal ∨ e' = .ret) → LaterW W.heap.size W keep ρ fn.ntmps g.next (endL P fn K e') a' w' → LeavesInM Fence.wide 0 P fn a'.tmps (fun e w' => ∃ v g' ρ', e = .returned (v.toV ρ') ∧ Post W keep ρ g v g' ρ' w' ∧ K v g') a'.defers .returning w' := by
    rintro e' he ⟨W', keep', x, st, ρ', h1, h2, h3, h4⟩
    obtain ⟨hlo, rs, hnd, hds, hrs⟩ := h3.defers
    rw [hds]
    have hdef : ∀ r ∈ rs, w'.heap[r]? = some (.deferred (some [])) := fun r hr => by
      obtain ⟨_, k2, k3⟩ := hrs r hr
      rw [(h3.rel.kept r k2).2, k3]
    refine leaves_marks rs w' hnd hdef fun w2 o1 o2 o3 o4 o5 => ?_
    have h5 : match resL P st.tm st.g fn.results.toList with
      | some vs => K (oneL vs) st.g
      | none => False := by rcases he with rfl | rfl <;> exact h4
    have hn0 := h3.rel.narrow x
    have hrel : Rel W keep ρ' st.g w2 := by
      refine ⟨o1.trans hn0.os, o2.trans hn0.tape, o3.trans hn0.output, by rw [o4]; exact hn0.size, fun b hb => ⟨(hn0.kept b hb).1, ?_⟩, fun i o hi => ⟨(hn0.obj i o hi).1, (hn0.obj i o hi).2.heap ?_⟩, hn0.inj, hn0.mine⟩
      · rw [o5 b fun hm => ?_]
        · exact (hn0.kept b hb).2
        · have := (hrs b hm).1
          have := (hn0.kept b hb).1
          omega
      · exact o5 _ fun hm => no_deferred (hn0.obj i o hi).2 (hdef _ hm)
    cases hr : resL P st.tm st.g fn.results.toList with
    | none => rw [hr] at h5; exact h5.elim
    | some vs =>
      rw [hr] at h5
      obtain ⟨r1, r2⟩ := res_sound (P := P) hrel h3.tm _ _ hr
      refine ⟨(oneL vs).toV ρ', ?_, oneL vs, st.g, ρ', rfl, ⟨h1, hrel, oneL_ok r2, h2⟩, h5⟩
      simp only [results]
      rw [Array.mapM_eq_mapM_toList, map_eq_pure_bind]
      rw [oneL_toV]
      have : ((fn.results.toList.mapM (m := Sem) fun
        | .tmp t => pure (a'.tmps.getD t undef)
        | .cell b t => do loadVar t (← asAddr (a'.tmps.getD b undef))) >>= fun a => pure a.toArray).run P w2 = .ok (toVs ρ' vs).toArray w2 := by
        rw [run_bind_ok r1]; rfl
      refine Eq.trans (run_bind_ok this) ?_
      rfl
  cases e with
  | normal => exact fin .normal (.inl rfl) hq
  | ret => exact fin .ret (.inr rfl) hq
  | exit id =>
    obtain ⟨_, _, _, st, ρ', _, _, _, h4⟩ := hq
    exact h4.elim
  | _ => exact hq.elim
/-- A function's contract, out of what its body does. -/
theorem ok_of_code {f : FuncId} {fn : Func} {c : Code} {args : List LV} {K : LV → LHeap → Prop} (hm : P.follows .mixedOrders = true) (hf : P.funcs[f]? = some fn) (hb : fn.body = some c) (hn : (fn.name == "runtime.NumGoroutine") = false)
    (hfine : fineC fn.ntmps c = true) (hlen : args.length ≤ fn.ntmps) (hK : codeL P (Ok P) c ⟨startL args, g⟩ (endL P fn K)) : Ok P f args g K :=
  ok_of_prune hm hf hb hn hlen (by rw [prune_fine c hfine]; exact hK)

/-! ### A round -/
def putAll (tm : Nat → LV) : List (Tmp × LV) → Nat → LV
  | [] => tm
  | p :: l => putAll (putL tm (some p.1) p.2) l
/-- A round's end. -/
def roundE (a : Nat) (K : LV → LHeap → Prop) : LEx → LSt → Prop := fun e st =>
  match st.g.get a with
  | some (.loop r) => match e with
    | .normal => K (.bool true) (st.g.set a (.loop { r with state := .ready, pending := none }))
    | .exit id => K (.bool false) (st.g.set a (.loop { r with state := .done, pending := some (.exit id) }))
    | .ret => K (.bool false) (st.g.set a (.loop { r with state := .done, pending := some .ret }))
  | _ => False
/-- A round: the assignments, then the body. -/
def roundB (P : Program) (C : CallSem) (a : Nat) (body : Code) (K : LV → LHeap → Prop) : LEx → LSt → Prop := fun e st =>
  match e with
  | .normal => match st.g.get a with
    | some (.loop r) => r.state = .ready ∧ codeL P C body ⟨st.tm, st.g.set a (.loop { r with state := .busy })⟩ (roundE a K)
    | _ => False
  | _ => False
theorem putAll_rel {n N : Nat} : ∀ {l : List (Tmp × LV)} {tm : Nat → LV} {tmps : Array Value}, (∀ p ∈ l, p.1 < tmps.size ∧ p.2.ok ρ n) → TRel ρ n tm tmps →
    TRel ρ n (putAll tm l) (l.foldl (fun (ts : Array Value) p => ts.setIfInBounds p.1 (p.2.toV ρ)) tmps) ∧ (l.foldl (fun (ts : Array Value) p => ts.setIfInBounds p.1 (p.2.toV ρ)) tmps).size = tmps.size
  | [], _, _, _, h => ⟨h, rfl⟩
  | p :: l, tm, tmps, hp, h => by
    obtain ⟨h1, h2⟩ := hp p (List.mem_cons_self ..)
    have hput := TRel.put (a := { tmps := tmps, defers := [] }) h h1 h2
    have := putAll_rel (N := N) (l := l) (tm := putL tm (some p.1) p.2) (tmps := tmps.setIfInBounds p.1 (p.2.toV ρ)) (fun q hq => ⟨by rw [Array.size_setIfInBounds]; exact (hp q (List.mem_cons_of_mem _ hq)).1, (hp q (List.mem_cons_of_mem _ hq)).2⟩) hput
    rw [Array.size_setIfInBounds] at this
    exact this
theorem zip_fold (ρ : Ren) : ∀ (ps : List Tmp) (args : List LV) (tmps : Array Value), ((ps.zip (toVs ρ args)).foldl (fun (ts : Array Value) (x : Tmp × Value) => ts.setIfInBounds x.1 x.2) tmps) = ((ps.zip args).foldl (fun (ts : Array Value) (p : Tmp × LV) => ts.setIfInBounds p.1 (p.2.toV ρ)) tmps)
  | [], _, _ => by simp
  | _ :: _, [], _ => by simp [toVs]
  | p :: ps, a :: args, tmps => by simp only [toVs, List.zip_cons_cons, List.foldl_cons]; exact zip_fold ρ ps args _
/-- One round of a range over a function, out of its text. -/
theorem round_of_code {a : Nat} {args : List LV} {r : LLoop} {K : LV → LHeap → Prop} (hm : P.follows .mixedOrders = true) (hg : g.get a = some (.loop r)) (hst : r.state = .ready) (hlen : args.length = r.params.size)
    (hK : codeL P (Ok P) r.assign ⟨putAll r.tm (r.params.toList.zip args), g⟩ (roundB P (Ok P) a r.body K)) : Round P a args g K := by
  intro W keep ρ w h hargs hl
  obtain ⟨_, h0, h1, fn, d, tmps, h2, h3, h4⟩ := h.obj a _ hg
  simp only [fineL, Bool.and_eq_true] at h2
  obtain ⟨⟨⟨⟨hps, hf1⟩, hf2⟩, hfl1⟩, hfl2⟩ := h2
  have hy := run_yield (P := P) (args := (toVs ρ args).toArray) h4 (by simp [toVs_length, hlen])
  refine ⟨_, _, _, _, hy, ?_⟩
  have hfold : (r.params.zip (toVs ρ args).toArray).foldl (fun (tmps : Array Value) (x : Tmp × Value) => tmps.setIfInBounds x.1 x.2) tmps = ((r.params.toList.zip args).foldl (fun (ts : Array Value) (p : Tmp × LV) => ts.setIfInBounds p.1 (p.2.toV ρ)) tmps) := by
    rw [← Array.foldl_toList, Array.toList_zip]
    exact zip_fold ρ _ _ _
  have hP : ∀ p ∈ r.params.toList.zip args, p.1 < tmps.size ∧ p.2.ok ρ g.next := fun p hp => by
    have hm := List.of_mem_zip hp
    have := List.all_eq_true.1 hps _ hm.1
    exact ⟨Nat.le_of_ble_eq_true this, (oks_iff _ _ _).1 hargs _ hm.2⟩
  obtain ⟨t1, t2⟩ := putAll_rel (N := 0) hP ⟨h3, h1⟩
  rw [← hfold] at t1 t2
  have hS : SRel 0 W keep ρ tmps.size ⟨putAll r.tm (r.params.toList.zip args), g⟩ { tmps := (r.params.zip (toVs ρ args).toArray).foldl (fun (tmps : Array Value) (x : Tmp × Value) => tmps.setIfInBounds x.1 x.2) tmps, defers := [] } w :=
    ⟨h, t1, t2, Nat.zero_le _, [], List.nodup_nil, rfl, fun _ hr => by cases hr⟩
  refine roundIn_of_wpIn (F := Fence.wide) trivial ?_
  have hc := code_sound hm r.assign (some (ρ.blk a)) (.inr hfl1) W keep _ _ w ρ _ hf1 hS hK
  refine wpIn_mono hc ?_
  intro e a1 w1 hq
  cases e with
  | normal =>
    obtain ⟨W1, keep1, x, st, ρ1, x1, x2, S1, hb⟩ := hq
    have hb : match st.g.get a with
      | some (.loop r') => r'.state = .ready ∧ codeL P (Ok P) r.body ⟨st.tm, st.g.set a (.loop { r' with state := .busy })⟩ (roundE a K)
      | _ => False := hb
    split at hb
    rotate_left
    · exact hb.elim
    rename_i r' hg'
    have hblk : ρ1.blk a = ρ.blk a := (x1 a hl).1
    obtain ⟨rec, e1, e2, e3, e4⟩ := S1.rel.turnLoop hg' .busy r'.pending
    rw [hblk] at e1 e4
    have e5 : { rec with state := LoopState.busy } = { rec with state := LoopState.busy, pending := r'.pending } := by rw [← e3]
    have hbegin := run_beginRound (P := P) e1 (by rw [e2]; exact hb.1)
    rw [e5] at hbegin
    refine ⟨_, hbegin, ?_⟩
    have S2 := S1.of_rel e4 rfl
    refine wpIn_mono (code_sound hm r.body (some (ρ.blk a)) (.inr hfl2) W1 keep1 _ _ _ ρ1 _ hf2 S2 hb.2) ?_
    intro e a2 w2 hq
    have fin : ∀ (e' : LEx) (jump : Option Code), LaterW 0 W1 keep1 ρ1 tmps.size st.g.next (roundE a K e') a2 w2 → (∀ (st : LSt) r, st.g.get a = some (.loop r) → roundE a K e' st → K (.bool jump.isNone) (st.g.set a (.loop { r with state := if jump.isNone then .ready else .done, pending := jump }))) →
        ∃ v w', (Instr.endRound (ρ.blk a) jump).run P w2 = .ok v w' ∧ ∃ u g' ρ', Ending.returned v = .returned (u.toV ρ') ∧ Post W keep ρ g u g' ρ' w' ∧ K u g' := by
      rintro e' jump ⟨W2, keep2, y, st2, ρ2, y1, y2, S3, hr⟩ hj
      have hg2 : ∃ r2, st2.g.get a = some (.loop r2) := by
        unfold roundE at hr
        split at hr
        · rename_i r2 h; exact ⟨r2, h⟩
        · exact hr.elim
      obtain ⟨r2, hg2⟩ := hg2
      have hblk2 : ρ2.blk a = ρ.blk a := by rw [(y1 a (Nat.lt_of_lt_of_le hl x2)).1, hblk]
      obtain ⟨rec2, f1, f2, f3, f4⟩ := S3.rel.turnLoop hg2 (if jump.isNone then .ready else .done) jump
      rw [hblk2] at f1 f4
      refine ⟨_, _, run_endRound jump f1, .bool jump.isNone, _, ρ2, rfl, ⟨x1.trans y1 x2, (f4.narrow y).narrow x, by simp [LV.ok], Nat.le_trans x2 y2⟩, hj st2 r2 hg2 hr⟩
    cases e with
    | normal => exact fin .normal none hq fun st r hg hr => by simp only [roundE, hg] at hr; simpa using hr
    | exit id => exact fin (.exit id) (some (.exit id)) hq fun st r hg hr => by simp only [roundE, hg] at hr; simpa using hr
    | ret => exact fin .ret (some .ret) hq fun st r hg hr => by simp only [roundE, hg] at hr; simpa using hr
    | _ => exact hq.elim
  | exit id =>
    obtain ⟨_, _, _, st, ρ1, _, _, _, hb⟩ := hq
    exact hb.elim
  | ret =>
    obtain ⟨_, _, _, st, ρ1, _, _, _, hb⟩ := hq
    exact hb.elim
  | _ => exact hq.elim

end Go.Lm
