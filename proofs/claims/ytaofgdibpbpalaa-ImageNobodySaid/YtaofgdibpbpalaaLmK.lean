/-
  The logical machine, part K: conversions, interface values, iterators.
-/
import Derived.Test.YtaofgdibpbpalaaLmJ
namespace Go.Lm

variable {P : Program} {W : World} {keep : Nat → Prop} {ρ : Ren} {g : LHeap} {w : World}

/-! ### Conversions -/
theorem run_bytes : ∀ (l : List LV) (s : ByteArray) (r : List UInt8) (w : World),
    l.mapM (fun (c : LV) => match c with | .int .u8 n => some (UInt8.ofNat n.toNat) | _ => none) = some r →
    ∃ s', (forIn (m := Sem) (toVs ρ l) s fun c r => match c with
        | .int .u8 n => pure (ForInStep.yield (r.push (UInt8.ofNat n.toNat)))
        | _ => (do stuck "bytesToString: byte expected"; pure (ForInStep.yield r))).run P w = .ok s' w ∧ s'.data.toList = s.data.toList ++ r := by
  intro l
  induction l with
  | nil => intro s r w h; simp at h; subst h; exact ⟨s, rfl, by simp⟩
  | cons x l ih =>
    intro s r w h
    simp only [List.mapM_cons, Option.pure_def, Option.bind_eq_bind, Option.bind_eq_some_iff] at h
    obtain ⟨b, hb, bs, hbs, h⟩ := h
    cases h
    split at hb
    · rename_i n
      cases hb
      obtain ⟨s', h1, h2⟩ := ih (s.push (UInt8.ofNat n.toNat)) bs w hbs
      refine ⟨s', ?_, ?_⟩
      · simp only [toVs, LV.toV, List.forIn_cons]
        rw [run_bind_ok (a := ForInStep.yield (s.push (UInt8.ofNat n.toNat))) (w' := w) rfl]
        exact h1
      · rw [h2]
        simp [ByteArray.push]
    · cases hb

theorem freeze_push (w : World) (C : Array Value) (e : TypeId) (k : Nat) :
    ({ w with heap := w.heap.push (.cells C e) } : World).freeze { block := w.heap.size, off := k } 1 = { w with heap := w.heap.push (.cells C e (k, k + 1)) } := by
  unfold World.freeze
  simp only [Nat.one_ne_zero, if_false]
  congr 1
  apply Array.ext
  · simp
  · intro j h1 h2
    simp only [Array.getElem_modify, Array.getElem_push]
    by_cases hj : w.heap.size = j
    · subst hj
      simp
    · have : j < w.heap.size := by simp at h2; omega
      simp [hj, this]

theorem sim_convY {s d : TypeId} {x v : LV} {g' : LHeap} (h : Rel W keep ρ g w) (hns : ∀ e, P.underlying d ≠ some (.slice e)) (hc : convL P s d x g = some (v, g')) : Yields1 P ρ g.next w (convert s d (x.toV ρ)) v ∧ g' = g := by
  unfold convL at hc
  split at hc
  · rename_i sd k hs hd
    split at hc
    · rename_i kk n
      cases hc
      refine ⟨⟨?_, by simp [LV.ok]⟩, rfl⟩
      simp only [convert]
      rw [run_bind_ok (run_underlying' hs w), run_bind_ok (run_underlying' hd w)]
      cases sd <;> rfl
    · cases hc
  · rename_i e hs hd
    exact absurd hd (hns e)
  · rename_i e hs hd
    split at hc
    · rename_i he
      split at hc
      · cases hc
        refine ⟨⟨?_, by simp [LV.ok]⟩, rfl⟩
        simp only [convert]
        rw [run_bind_ok (run_underlying' hs w), run_bind_ok (run_underlying' hd w)]
        simp only [LV.toV]
        rw [run_bind_ok (run_underlying' he w)]
        rfl
      · cases hc
        refine ⟨⟨?_, by simp [LV.ok]⟩, rfl⟩
        simp only [convert]
        rw [run_bind_ok (run_underlying' hs w), run_bind_ok (run_underlying' hd w)]
        simp only [LV.toV]
        rw [run_bind_ok (run_underlying' he w)]
        rfl
      · rename_i a off len cp
        split at hc
        · rename_i vs own hg
          split at hc
          · rename_i hle
            obtain ⟨bs, hbs, heq⟩ := Option.map_eq_some_iff.1 hc
            cases heq
            obtain ⟨cap, hv⟩ := slice_toV ρ a off len cp
            refine ⟨⟨?_, by simp [LV.ok]⟩, rfl⟩
            rw [hv]
            simp only [convert]
            rw [run_bind_ok (run_underlying' hs w), run_bind_ok (run_underlying' hd w)]
            simp only
            rw [run_bind_ok (run_underlying' he w)]
            simp only [Conv.bytesToString]
            rw [run_bind_ok (run_loadCells h hg hle)]
            rw [← Array.forIn_toList]
            obtain ⟨s', r1, r2⟩ := run_bytes (P := P) (ρ := ρ) _ ByteArray.empty bs w hbs
            refine (run_bind_ok r1).trans ?_
            simp only [run_pure, LV.toV]
            congr 2
            apply ByteArray.ext
            apply Array.ext'
            rw [r2]
            simp
          · cases hc
        · cases hc
      · cases hc
    · cases hc
  · rename_i hs hd
    split at hc
    · cases hc
      refine ⟨⟨?_, by simp [LV.ok]⟩, rfl⟩
      simp only [convert]
      rw [run_bind_ok (run_underlying' hs w), run_bind_ok (run_underlying' hd w)]
      rfl
    · cases hc
  · rename_i e hs hd; exact (hns e hd).elim
  · cases hc


theorem sim_conv {s d : TypeId} {x v : LV} {g' : LHeap} (h : Rel W keep ρ g w) (hxok : x.ok ρ g.next) (hc : convL P s d x g = some (v, g')) : Makes P W keep ρ g w (convert s d (x.toV ρ)) v g' := by
  unfold convL at hc
  split at hc
  · rename_i sd k hs hd
    split at hc
    · rename_i kk n
      cases hc
      refine ⟨ρ, w, ?_, Post.same h (by simp [LV.ok])⟩
      simp only [convert]
      rw [run_bind_ok (run_underlying' hs w), run_bind_ok (run_underlying' hd w)]
      cases sd <;> rfl
    · cases hc
  · rename_i e hs hd
    split at hc
    · rename_i str he
      split at hc
      · rename_i hlen
        cases hc
        have hok : oks ρ g.next (str.map fun b => LV.int .u8 b.toNat) := (oks_iff _ _ _).2 fun v hv => by
          obtain ⟨b, _, rfl⟩ := List.mem_map.1 hv
          simp [LV.ok]
        have hcell : ∀ v ∈ (str.map fun b => LV.int .u8 b.toNat), v.cell = true := fun v hv => by
          obtain ⟨b, _, rfl⟩ := List.mem_map.1 hv
          rfl
        obtain ⟨c, c1, c2, c3⟩ := run_chooseCap (P := P) str.length 0 e (by omega) w
        have hrel := (h.drawn (n := w.drawn + 1)).newOpen (rest := Array.replicate (c - str.length) (.int .u8 0)) (ty := e) (fz := (c, c + 1)) hok hcell (fun o ho => by
          simp at ho; omega)
        refine ⟨_, _, ?_, Ren.put_ext _ _ _ _ _, hrel, ?_, by simp⟩
        · simp only [convert]
          rw [run_bind_ok (run_underlying' hs w), run_bind_ok (run_underlying' hd w)]
          simp only [LV.toV]
          rw [run_bind_ok (run_underlying' he w)]
          simp only [Conv.stringToBytes]
          have hsz : (⟨str.toArray⟩ : ByteArray).size = str.length := by simp [ByteArray.size]
          rw [hsz, run_bind_ok c3]
          rw [run_bind_ok (run_newRow _ _ _)]
          have harr : ((⟨str.toArray⟩ : ByteArray).data.map fun b => Value.int .u8 b.toNat) = (toVs ρ (str.map fun b => LV.int .u8 b.toNat)).toArray := by
            simp [toVs_eq, LV.toV, Function.comp_def]
          have hmark : (markStringish ⟨w.heap.size, 0, none⟩).run P { w with drawn := w.drawn + 1, heap := w.heap.push (.cells ((toVs ρ (str.map fun b => LV.int .u8 b.toNat)).toArray ++ Array.replicate (c - str.length) (.int .u8 0)) e) } =
              .ok () { w with drawn := w.drawn + 1, heap := w.heap.push (.cells ((toVs ρ (str.map fun b => LV.int .u8 b.toNat)).toArray ++ Array.replicate (c - str.length) (.int .u8 0)) e (c, c + 1)) } := by
            simp only [markStringish]
            rw [run_bind_ok (a := some (e, c)) (w' := { w with drawn := w.drawn + 1, heap := w.heap.push (.cells ((toVs ρ (str.map fun b => LV.int .u8 b.toNat)).toArray ++ Array.replicate (c - str.length) (.int .u8 0)) e) }) (by
              simp [shape, Sem.run, World.shape?, toVs_length]; omega)]
            simp only [freeze, Sem.run]
            rw [freeze_push { w with drawn := w.drawn + 1 }]
          rw [harr, run_bind_ok hmark]
          simp only [run_pure, Ren.put_addr, Ren.put_cap, Nat.sub_zero, Nat.div_one]
          congr 2
          simp; omega
        · simp only [LV.ok, Ren.put_cap, LHeap.next_alloc]
          refine ⟨by omega, by omega, ?_⟩
          simp
      · cases hc
    · cases hc
  · rename_i e hs hd
    split at hc
    · rename_i he
      split at hc
      · cases hc
        refine ⟨ρ, w, ?_, Post.same h (by simp [LV.ok])⟩
        simp only [convert]
        rw [run_bind_ok (run_underlying' hs w), run_bind_ok (run_underlying' hd w)]
        simp only [LV.toV]
        rw [run_bind_ok (run_underlying' he w)]
        rfl
      · cases hc
        refine ⟨ρ, w, ?_, Post.same h (by simp [LV.ok])⟩
        simp only [convert]
        rw [run_bind_ok (run_underlying' hs w), run_bind_ok (run_underlying' hd w)]
        simp only [LV.toV]
        rw [run_bind_ok (run_underlying' he w)]
        rfl
      · rename_i a off len cp
        split at hc
        · rename_i vs own hg
          split at hc
          · rename_i hle
            obtain ⟨bs, hbs, heq⟩ := Option.map_eq_some_iff.1 hc
            cases heq
            obtain ⟨cap, hv⟩ := slice_toV ρ a off len cp
            refine ⟨ρ, w, ?_, Post.same h (by simp [LV.ok])⟩
            rw [hv]
            simp only [convert]
            rw [run_bind_ok (run_underlying' hs w), run_bind_ok (run_underlying' hd w)]
            simp only
            rw [run_bind_ok (run_underlying' he w)]
            simp only [Conv.bytesToString]
            rw [run_bind_ok (run_loadCells h hg hle)]
            rw [← Array.forIn_toList]
            obtain ⟨s', r1, r2⟩ := run_bytes (P := P) (ρ := ρ) _ ByteArray.empty bs w hbs
            refine (run_bind_ok r1).trans ?_
            simp only [run_pure, LV.toV]
            congr 2
            apply ByteArray.ext
            apply Array.ext'
            rw [r2]
            simp
          · cases hc
        · cases hc
      · cases hc
    · cases hc
  · rename_i hs hd
    split at hc
    · cases hc
      refine ⟨ρ, w, ?_, Post.same h (by simp [LV.ok])⟩
      simp only [convert]
      rw [run_bind_ok (run_underlying' hs w), run_bind_ok (run_underlying' hd w)]
      rfl
    · cases hc
  · rename_i es e hs hd
    split at hc
    · rename_i a off len cp he
      split at hc
      · rename_i vs own hg
        split at hc
        · rename_i hcond
          obtain ⟨hsd, hro⟩ := hcond
          cases hc
          subst hsd
          obtain ⟨cap, hv⟩ := slice_toV ρ a off len cp
          obtain ⟨hlt, h1, h2, C, ty, fz, h3, h4, h5, h6, h7⟩ := h.obj a _ hg
          have hfr : w.freeze { block := (ρ.addr a off).block, off := C.size } 1 = { w with heap := w.heap.setIfInBounds (ρ.blk a) (.cells C ty (if fz.1 == fz.2 then (C.size, C.size + 1) else (min fz.1 C.size, max fz.2 (C.size + 1)))) } := by
            unfold World.freeze
            simp only [Nat.one_ne_zero, if_false, Ren.addr]
            congr 1
            apply Array.ext_getElem?
            intro j
            rw [Array.getElem?_modify, Array.getElem?_setIfInBounds]
            split
            · rename_i hj
              subst hj
              have hlt := (Array.getElem?_eq_some_iff.1 h3).1
              rw [h3, if_pos hlt]
              rfl
            · rfl
          refine ⟨ρ, _, ?_, Ren.Ext.refl _ _, h.turn (x := .cells C ty (if fz.1 == fz.2 then (C.size, C.size + 1) else (min fz.1 C.size, max fz.2 (C.size + 1)))) hg (by cases own <;> first | rfl | exact (hro rfl).elim) ?_, hxok, Nat.le_refl _⟩
          · rw [hv]
            simp only [convert]
            rw [run_bind_ok (run_underlying' hs w), run_bind_ok (run_underlying' hd w)]
            simp only
            rw [run_bind_ok (run_underlying' he w)]
            simp only [beq_self_eq_true]
            have hm : (markStringish (ρ.addr a off)).run P w = .ok () (w.freeze { block := (ρ.addr a off).block, off := C.size } 1) := by
              simp only [markStringish]
              rw [run_bind_ok (a := some (ty, C.size)) (w' := w) (by
                simp [shape, Sem.run, World.shape?, Ren.addr, h3])]
              rfl
            rw [run_bind_ok hm, hfr, run_pure]
          · refine ⟨h1, h2, C, ty, (if fz.1 == fz.2 then (C.size, C.size + 1) else (min fz.1 C.size, max fz.2 (C.size + 1))), ?_, h4, h5, fun e => (e rfl).elim, fun e => by cases e⟩
            have hlt := (Array.getElem?_eq_some_iff.1 h3).1
            simp [hlt]
        · cases hc
      · cases hc
    · cases hc
  · cases hc

/-! ### Interface values, tuples -/
theorem sim_iface {t : TypeId} {x v : LV} {n : Nat} (hx : x.ok ρ n) (h : ifaceL P t x = some v) : Yields1 P ρ n w (Instr.makeInterface t (x.toV ρ)) v := by
  unfold ifaceL at h
  split at h
  · cases h
  · rename_i d hne hd
    cases h
    refine ⟨?_, by simpa only [LV.ok] using hx⟩
    simp only [Instr.makeInterface]
    rw [run_bind_ok (run_underlying' hd w)]
    cases d with
    | interface ms => exact (hne ms rfl).elim
    | _ => rfl
  · cases h
theorem sim_assert {x v : LV} {t xt : TypeId} {ok : Bool} {n : Nat} (hx : x.ok ρ n) (h : assertL P x t ok = some v) : Yields1 P ρ n w (Instr.typeAssert (x.toV ρ) xt t ok) v := by
  unfold assertL at h
  split at h
  · cases h
  · rename_i d hne hd
    split at h
    · rename_i hok
      obtain ⟨z, hz, rfl⟩ := Option.map_eq_some_iff.1 h
      obtain ⟨z1, z2⟩ := run_zeroL (P := P) hz ρ n w
      refine ⟨?_, by simp only [LV.ok, oks]; exact ⟨z2, trivial, trivial⟩⟩
      simp only [Instr.typeAssert, LV.toV]
      rw [run_bind_ok (run_underlying' hd w)]
      cases d with
      | interface ms => exact (hne ms rfl).elim
      | _ => simp only [hok, if_true]; rw [run_bind_ok z1]; rfl
    · cases h
  · rename_i d u y hne hd
    split at h
    · rename_i hut
      cases h
      refine ⟨?_, ?_⟩
      · simp only [Instr.typeAssert, LV.toV]
        rw [run_bind_ok (run_underlying' hd w)]
        cases d with
        | interface ms => exact (hne ms rfl).elim
        | _ => simp only [hut, if_true]; cases ok <;> rfl
      · simp only [LV.ok] at hx
        cases ok
        · exact hx
        · simp only [if_true, LV.ok, oks]; exact ⟨hx, trivial, trivial⟩
    · rename_i hut
      split at h
      · rename_i hok
        obtain ⟨z, hz, rfl⟩ := Option.map_eq_some_iff.1 h
        obtain ⟨z1, z2⟩ := run_zeroL (P := P) hz ρ n w
        refine ⟨?_, by simp only [LV.ok, oks]; exact ⟨z2, trivial, trivial⟩⟩
        simp only [Instr.typeAssert, LV.toV]
        rw [run_bind_ok (run_underlying' hd w)]
        cases d with
        | interface ms => exact (hne ms rfl).elim
        | _ => simp only [hut, if_false, hok, if_true]; rw [run_bind_ok z1]; rfl
      · cases h
  · cases h
theorem sim_extract {x v : LV} {i n : Nat} (hx : x.ok ρ n) (h : extractL x i = some v) : Yields1 P ρ n w (Instr.extract (x.toV ρ) i) v := by
  unfold extractL at h
  split at h
  · rename_i vs
    simp only [LV.ok] at hx
    refine ⟨?_, (oks_iff _ _ _).1 hx v (List.mem_of_getElem? h)⟩
    simp only [LV.toV, Instr.extract, List.getElem?_toArray, toVs_getElem?, h, Option.map_some]
    rfl
  · cases h

/-! ### Iterators -/
theorem Rel.newIter {o : LObj} {x : Obj} (h : Rel W keep ρ g w) (ho : ∀ ρ' n, Ren.Ext g.next ρ ρ' → g.next ≤ n → ρ'.base g.next = 0 → ρ'.blk g.next = w.heap.size → ObjR ρ' n { w with heap := w.heap.push x } g.next o) :
    ∃ ρ' w', (do pure (.pointer (some ⟨← newObj x, 0, none⟩)) : Sem Value).run P w = .ok ((LV.ptr g.next 0).toV ρ') w' ∧ Post W keep ρ g (.ptr g.next 0) (g.alloc o) ρ' w' := by
  have hx : Ren.Ext g.next ρ (ρ.put g.next w.heap.size 0 0) := Ren.put_ext _ _ _ _ _
  refine ⟨_, _, ?_, hx, h.new (cap := 0) (ho _ (g.next + 1) hx (by omega) (by simp) (by simp)), by simp [LV.ok], by simp⟩
  rw [run_bind_ok (run_newObj x w)]
  simp only [run_pure, LV.toV, Ren.put_addr]
theorem sim_range {t : TypeId} {x v : LV} {g' : LHeap} (h : Rel W keep ρ g w) (hr : rangeL P t x g = some (v, g')) : Makes P W keep ρ g w (Instr.range t (x.toV ρ)) v g' := by
  unfold rangeL at hr
  split at hr
  · rename_i s hd
    cases hr
    obtain ⟨ρ', w', r1, r2⟩ := h.newIter (P := P) (o := .strIter s 0) (x := .stringIter ⟨s.toArray⟩ 0) (fun ρ' n hx hn hb hk => ⟨hb, by rw [hk]; simp⟩)
    refine ⟨ρ', w', ?_, r2⟩
    simp only [Instr.range]
    rw [run_bind_ok (run_underlying' hd w)]
    simp only [LV.toV]
    rw [run_bind_ok (run_pure P _ w)]
    exact r1
  · rename_i k e hd
    cases hr
    obtain ⟨ρ', w', r1, r2⟩ := h.newIter (P := P) (o := .mapIter none 0 [] 0) (x := .mapIter none 0 #[] 0) (fun ρ' n hx hn hb hk => ⟨hb, by simp, by rw [hk]; simp⟩)
    refine ⟨ρ', w', ?_, r2⟩
    simp only [Instr.range]
    rw [run_bind_ok (run_underlying' hd w)]
    simp only [LV.toV]
    rw [run_bind_ok (run_pure P _ w)]
    exact r1
  · rename_i k e a hd
    split at hr
    · rename_i es clock own hg
      cases hr
      obtain ⟨ρ', w', r1, r2⟩ := h.newIter (P := P) (o := .mapIter (some a) clock [] clock) (x := .mapIter (some (ρ.blk a)) clock #[] clock)
        (fun ρ' n hx hn hb hk => ⟨hb, fun b hb => by cases hb; have := (h.obj a _ hg).1; omega, by rw [hk, Option.map_some, (hx a (h.obj a _ hg).1).1]; simp⟩)
      refine ⟨ρ', w', ?_, r2⟩
      simp only [Instr.range]
      rw [run_bind_ok (run_underlying' hd w)]
      simp only [LV.toV]
      rw [run_bind_ok (run_getMap h hg)]
      simp only
      rw [run_bind_ok (run_pure P _ w)]
      exact r1
    · cases hr
  · cases hr

theorem ptr_iter {r : Nat} (hb : ρ.base r = 0) : (LV.ptr r 0).toV ρ = .pointer (some ⟨ρ.blk r, 0, none⟩) := by simp [LV.toV, Ren.addr, hb]
theorem run_getIter {i : Nat} {x : Obj} (hx : w.heap[ρ.blk i]? = some x) (hc : ∀ c t f, x ≠ .cells c t f) : (getObj (ρ.blk i)).run P w = .ok x w := by
  cases x with
  | cells c t f => exact absurd rfl (hc c t f)
  | _ => simp [getObj, Sem.run, hx]
theorem run_setIter {i : Nat} {x y : Obj} (hx : w.heap[ρ.blk i]? = some x) (hc : ∀ c t f, x ≠ .cells c t f) : (setObj (ρ.blk i) y).run P w = .ok () { w with heap := w.heap.setIfInBounds (ρ.blk i) y } := by
  cases x with
  | cells c t f => exact absurd rfl (hc c t f)
  | _ => simp [setObj, Sem.run, hx]

theorem sim_nextStr {it v : LV} {g' : LHeap} {ty : TypeId} (h : Rel W keep ρ g w) (hn : nextStrL it g = some (v, g')) : Makes P W keep ρ g w (Instr.next (it.toV ρ) true ty) v g' := by
  unfold nextStrL at hn
  split at hn
  · rename_i r
    split at hn
    · rename_i s pos hg
      obtain ⟨hlt, hb, hh⟩ := h.obj r _ hg
      have hsz : (⟨s.toArray⟩ : ByteArray).size = s.length := by simp [ByteArray.size]
      split at hn
      · rename_i hp
        cases hn
        refine ⟨ρ, { w with heap := w.heap.setIfInBounds (ρ.blk r) (.stringIter ⟨s.toArray⟩ (pos + (Utf8.decode ⟨s.toArray⟩ pos).2)) }, ?_, Ren.Ext.refl _ _, h.turn hg rfl ⟨hb, ?_⟩, by simp [LV.ok, oks], by simp⟩
        · rw [ptr_iter hb]
          simp only [Instr.next]
          rw [run_bind_ok (run_getIter hh (by simp))]
          simp only [hsz, hp, if_true]
          rw [run_bind_ok (run_setIter hh (by simp))]
          rfl
        · have := (Array.getElem?_eq_some_iff.1 hh).1
          simp [this]
      · rename_i hp
        cases hn
        refine ⟨ρ, w, ?_, Post.same h (by simp [LV.ok, oks])⟩
        rw [ptr_iter hb]
        simp only [Instr.next]
        rw [run_bind_ok (run_getIter hh (by simp))]
        simp only [hsz, hp, if_false]
        rfl
    · cases hn
  · cases hn

end Go.Lm
