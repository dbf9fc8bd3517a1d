/-
  The logical machine, part B: the model's primitive steps on memory, seen from the logical heap.
-/
import Derived.Test.YtaofgdibpbpalaaLmA
namespace Go.Lm

variable {P : Program} {W : World} {keep : Nat → Prop} {ρ : Ren} {g : LHeap} {w : World}

theorem run_bind {α β : Type} (P : Program) (s : Sem α) (f : α → Sem β) (w : World) :
    (s >>= f).run P w = match s.run P w with | .ok a w' => (f a).run P w' | .halt h w' => .halt h w' := by
  show (Sem.bind s f).run P w = _
  induction s generalizing w with
  | pure a => simp [Sem.bind, Sem.run]
  | load m a k ih =>
    simp only [Sem.bind, Sem.run]
    cases hc : w.cell? a with
    | some v => exact ih v w
    | none =>
      cases hf : w.farLoad P a (m == .atomic) with
      | ok r => exact ih _ w
      | error h => rfl
  | store m a v k ih =>
    cases v
    case agg => rfl
    case tuple => rfl
    all_goals
      simp only [Sem.bind, Sem.run]
      cases hc : w.cell? a with
      | some v =>
        simp only []
        split
        · rfl
        · exact ih _
      | none =>
        simp only []
        split
        · exact ih _
        · rfl
  | new o k ih => exact ih _ _
  | shape r k ih => exact ih _ _
  | freeze a n k ih => exact ih _
  | frozen a k ih => exact ih _ _
  | getObj r k ih =>
    simp only [Sem.bind, Sem.run]
    split
    · rfl
    · exact ih _ _
    · rfl
  | setObj r o k ih =>
    simp only [Sem.bind, Sem.run]
    split
    · rfl
    · exact ih _
    · rfl
  | choose q k ih =>
    simp only [Sem.bind, Sem.run]
    split
    · exact ih _ _
    · exact ih _ _
  | sys c k ih => exact ih _ _
  | program k ih => exact ih _ _
  | mark m k ih => exact ih _
  | halt h => rfl
theorem run_pure {α : Type} (P : Program) (a : α) (w : World) : (pure a : Sem α).run P w = .ok a w := rfl
theorem run_bind_ok {α β : Type} {P : Program} {s : Sem α} {f : α → Sem β} {w w' : World} {a : α} (h : s.run P w = .ok a w') : (s >>= f).run P w = (f a).run P w' := by
  rw [run_bind, h]
theorem run_program (P : Program) (w : World) : (program : Sem Program).run P w = .ok P w := rfl
theorem run_typeInfo {t : TypeId} {i : TypeInfo} (h : P.info? t = some i) (w : World) : (typeInfo t).run P w = .ok i w := by
  simp only [typeInfo]; rw [run_bind_ok (run_program P w)]; simp only [h]; rfl
theorem run_underlying' {t : TypeId} {d : TypeDesc} (h : P.underlying t = some d) (w : World) : (underlying t).run P w = .ok d w := by
  simp only [underlying]; rw [run_bind_ok (run_program P w)]; simp only [h]; rfl
theorem run_sizeOf' {t : TypeId} {i : TypeInfo} (h : P.info? t = some i) (w : World) : (sizeOf t).run P w = .ok i.size w := by
  simp only [sizeOf]; rw [run_bind_ok (run_typeInfo h w)]; rfl
theorem run_zeroValue' {t : TypeId} {i : TypeInfo} {v : Value} (h : P.info? t = some i) (hz : i.zero = some v) (w : World) : (zeroValue t).run P w = .ok v w := by
  simp only [zeroValue]; rw [run_bind_ok (run_typeInfo h w)]; simp only [hz]; rfl

def isAggD : TypeDesc → Bool
  | .struct _ | .array _ _ => true
  | _ => false
theorem run_isAgg {t : TypeId} {d : TypeDesc} (h : P.underlying t = some d) (w : World) : (isAgg t).run P w = .ok (isAggD d) w := by
  simp only [isAgg]; rw [run_bind_ok (run_underlying' h w)]; cases d <;> rfl

/-! ### Cells -/
theorem Rel.cell {vs : List LV} {own : Own} {i off j : Nat} {v : LV} (h : Rel W keep ρ g w) (hg : g.get i = some (.cells vs own)) (hv : vs[off]? = some v) (hj : j = ρ.base i + off) :
    w.cell? ⟨ρ.blk i, j, none⟩ = some (v.toV ρ) := by
  obtain ⟨_, _, _, C, ty, fz, hb, _, hc, _⟩ := h.obj i _ hg
  subst hj
  simp only [World.cell?, hb]
  simpa using hc off v hv
theorem Rel.oks {vs : List LV} {own : Own} {i : Nat} (h : Rel W keep ρ g w) (hg : g.get i = some (.cells vs own)) : Lm.oks ρ g.next vs := (h.obj i _ hg).2.1
theorem Rel.celled {vs : List LV} {own : Own} {i : Nat} (h : Rel W keep ρ g w) (hg : g.get i = some (.cells vs own)) : ∀ v ∈ vs, v.cell = true := (h.obj i _ hg).2.2.1

theorem run_load {a : Addr} {v : Value} (h : w.cell? a = some v) : (load a).run P w = .ok v w := by
  simp [load, Sem.run, h]

theorem run_loadCellsFrom {vs : List LV} {own : Own} {i off : Nat} (h : Rel W keep ρ g w) (hg : g.get i = some (.cells vs own)) :
    ∀ (n k : Nat) (acc : Array Value), off + k + n ≤ vs.length →
      (loadCellsFrom (ρ.addr i off) k n acc).run P w = .ok (acc ++ (toVs ρ ((vs.drop (off + k)).take n)).toArray) w := by
  intro n
  induction n with
  | zero => intro k acc _; simp only [loadCellsFrom, toVs, List.take_zero, run_pure, List.toArray, Array.append_empty]
  | succ n ih =>
    intro k acc hn
    simp only [loadCellsFrom]
    have hlt : off + k < vs.length := by omega
    have hadd : (ρ.addr i off).add k = ⟨ρ.blk i, ρ.base i + (off + k), none⟩ := by
      unfold Addr.add Ren.addr
      split
      · subst_vars; rfl
      · simp [Nat.add_assoc]
    have hl : (load ((ρ.addr i off).add k)).run P w = .ok ((vs[off + k]).toV ρ) w := run_load (by
      rw [hadd]; exact h.cell hg (List.getElem?_eq_getElem hlt) rfl)
    rw [run_bind_ok hl, ih (k + 1) _ (by omega)]
    rw [show off + (k + 1) = off + k + 1 from rfl, List.drop_eq_getElem_cons hlt, List.take_succ_cons, toVs]
    simp
theorem run_loadCells {vs : List LV} {own : Own} {i off n : Nat} (h : Rel W keep ρ g w) (hg : g.get i = some (.cells vs own)) (hn : off + n ≤ vs.length) :
    (loadCells (ρ.addr i off) n).run P w = .ok (toVs ρ ((vs.drop off).take n)).toArray w := by
  unfold loadCells
  rw [run_loadCellsFrom h hg n 0 #[] (by omega)]
  simp

/-! ### Stores -/
/-- One object turned in place: the rest of the relation stays. -/
theorem Rel.turn {i : Nat} {o o' : LObj} {x : Obj} (h : Rel W keep ρ g w) (hg : g.get i = some o) (hm : o.mine = true)
    (ho : ObjR ρ g.next { w with heap := w.heap.setIfInBounds (ρ.blk i) x } i o') :
    Rel W keep ρ (g.set i o') { w with heap := w.heap.setIfInBounds (ρ.blk i) x } where
  os := h.os
  tape := h.tape
  output := h.output
  size := by simpa using h.size
  kept b hb := by
    refine ⟨(h.kept b hb).1, ?_⟩
    have : ρ.blk i ≠ b := fun e => h.mine i o hg hm (e ▸ hb)
    rw [← (h.kept b hb).2]
    simp [Array.getElem?_setIfInBounds_ne this]
  obj j p hj := by
    simp only [LHeap.get_set] at hj
    split at hj
    · rename_i e; subst e; cases hj
      exact ⟨(h.obj _ _ hg).1, ho⟩
    · rename_i e
      refine ⟨(h.obj _ _ hj).1, (h.obj _ _ hj).2.heap ?_⟩
      have : ρ.blk i ≠ ρ.blk j := h.inj i j o p hg hj (Ne.symm e) (.inl hm)
      simp [Array.getElem?_setIfInBounds_ne this]
  inj j k p q hj hk hne hpq := by
    simp only [LHeap.get_set] at hj hk
    split at hj <;> split at hk
    · rename_i e1 e2; exact absurd (e1.trans e2.symm) hne
    · rename_i e1 e2; subst e1; exact h.inj _ _ _ _ hg hk hne (.inl hm)
    · rename_i e1 e2; subst e2; exact h.inj _ _ _ _ hj hg hne (.inr hm)
    · exact h.inj _ _ _ _ hj hk hne hpq
  mine j p hj hp := by
    simp only [LHeap.get_set] at hj
    split at hj
    · rename_i e; subst e; exact h.mine _ _ hg hm
    · exact h.mine _ _ hj hp

theorem World.setCell_eq {b off : Nat} {C : Array Value} {ty : TypeId} {fz : Nat × Nat} (v : Value) (hb : w.heap[b]? = some (.cells C ty fz)) :
    w.setCell ⟨b, off, none⟩ v = { w with heap := w.heap.setIfInBounds b (.cells (C.setIfInBounds off v) ty fz) } := by
  have hlt := (Array.getElem?_eq_some_iff.1 hb).1
  have hget := (Array.getElem?_eq_some_iff.1 hb).2
  unfold World.setCell
  congr 1
  apply Array.ext
  · simp
  · intro k h1 h2
    simp only [Array.getElem_modify]
    by_cases e : b = k
    · subst e; simp [hget]
    · rw [if_neg e]
      have : (w.heap.setIfInBounds b (.cells (C.setIfInBounds off v) ty fz))[k]? = w.heap[k]? := Array.getElem?_setIfInBounds_ne e
      rw [Array.getElem?_eq_getElem h2, Array.getElem?_eq_getElem (by simpa using h2)] at this
      exact (Option.some.inj this).symm

theorem run_store {a : Addr} {v : Value} (hc : (w.cell? a).isSome = true) (hf : w.frozen? a = false) (h1 : ∀ c, v ≠ .agg c) (h2 : ∀ c, v ≠ .tuple c) :
    (store a v).run P w = .ok () (w.setCell a v) := by
  obtain ⟨u, hu⟩ := Option.isSome_iff_exists.1 hc
  cases v with
  | agg c => exact absurd rfl (h1 c)
  | tuple c => exact absurd rfl (h2 c)
  | _ => simp [store, Sem.run, hu, hf]

/-- What is known of the block of an object of one's own, while cells are written one by one. -/
theorem run_storeCells_aux {b base : Nat} {ty : TypeId} {fz : Nat × Nat} :
    ∀ (new : List Value) (k : Nat) (C : Array Value) (w : World), w.heap[b]? = some (.cells C ty fz) → base + k + new.length ≤ C.size →
      (∀ o, o < C.size → ¬ (fz.1 ≤ o ∧ o < fz.2)) → (∀ v ∈ new, (∀ c, v ≠ .agg c) ∧ (∀ c, v ≠ .tuple c)) →
      ∃ C', (storeCells ⟨b, base, none⟩ new k).run P w = .ok () { w with heap := w.heap.setIfInBounds b (.cells C' ty fz) } ∧ C'.size = C.size ∧
        (∀ j, C'[j]? = if base + k ≤ j ∧ j < base + k + new.length then new[j - (base + k)]? else C[j]?) := by
  intro new
  induction new with
  | nil =>
    intro k C w hb _ _ _
    refine ⟨C, ?_, rfl, fun j => by rw [if_neg (by simp)]⟩
    have : w.heap.setIfInBounds b (.cells C ty fz) = w.heap := by
      apply Array.ext_getElem?
      intro j
      rw [Array.getElem?_setIfInBounds]
      split
      · rename_i e; subst e
        split
        · exact hb.symm
        · rename_i h; exact absurd (Array.getElem?_eq_some_iff.1 hb).1 h
      · rfl
    rw [this]
    rfl
  | cons v vs ih =>
    intro k C w hb hn hf hv
    simp only [List.length_cons] at hn
    have hadd : (⟨b, base, none⟩ : Addr).add k = ⟨b, base + k, none⟩ := by unfold Addr.add; split <;> simp_all
    have hs : (store ((⟨b, base, none⟩ : Addr).add k) v).run P w = .ok () (w.setCell ⟨b, base + k, none⟩ v) := by
      rw [hadd]
      refine run_store ?_ ?_ (hv v (by simp)).1 (hv v (by simp)).2
      · simp only [World.cell?, hb]
        simp [show base + k < C.size by omega]
      · simp only [World.frozen?, hb]
        have := hf (base + k) (by omega)
        simpa using this
    have hb' : (w.setCell ⟨b, base + k, none⟩ v).heap[b]? = some (.cells (C.setIfInBounds (base + k) v) ty fz) := by
      rw [World.setCell_eq v hb]
      have hlt := (Array.getElem?_eq_some_iff.1 hb).1
      simp [hlt]
    obtain ⟨C', h1, h2, h3⟩ := ih (k + 1) _ _ hb' (by simp; omega) (by simpa using hf) (fun u hu => hv u (by simp [hu]))
    refine ⟨C', ?_, by simpa using h2, fun j => ?_⟩
    · simp only [storeCells]
      rw [run_bind_ok hs, h1]
      rw [World.setCell_eq v hb]
      simp
    · rw [h3 j]
      simp only [List.length_cons]
      by_cases hj : base + (k + 1) ≤ j ∧ j < base + (k + 1) + vs.length
      · rw [if_pos hj, if_pos (by omega), show j - (base + k) = (j - (base + (k + 1))) + 1 by omega]
        simp
      · rw [if_neg hj]
        by_cases hj2 : base + k ≤ j ∧ j < base + k + (vs.length + 1)
        · have : j = base + k := by omega
          subst this
          rw [if_pos hj2]
          simp [show base + k < C.size by omega]
        · rw [if_neg hj2]
          rw [Array.getElem?_setIfInBounds_ne (by omega)]

/-- new laid over vs from off on (as far as vs reaches, or beyond it) -/
def splice (vs : List LV) (off : Nat) (new : List LV) : List LV := vs.take off ++ new ++ vs.drop (off + new.length)
theorem splice_get {vs new : List LV} {off : Nat} (hoff : off ≤ vs.length) (j : Nat) :
    (splice vs off new)[j]? = if off ≤ j ∧ j < off + new.length then new[j - off]? else vs[j]? := by
  unfold splice
  have hl : (vs.take off).length = off := by simp; omega
  rw [List.append_assoc, List.getElem?_append, hl]
  by_cases h1 : j < off
  · rw [if_pos h1, if_neg (by omega), List.getElem?_take, if_pos h1]
  · rw [if_neg h1, List.getElem?_append]
    by_cases h2 : j - off < new.length
    · rw [if_pos h2, if_pos (by omega)]
    · rw [if_neg h2, if_neg (by omega), List.getElem?_drop]
      congr 1; omega
theorem splice_length {vs new : List LV} {off : Nat} (h : off + new.length ≤ vs.length) : (splice vs off new).length = vs.length := by
  unfold splice; simp; omega
theorem splice_mem {vs new : List LV} {off : Nat} {v : LV} (h : v ∈ splice vs off new) : v ∈ vs ∨ v ∈ new := by
  unfold splice at h
  simp only [List.mem_append] at h
  rcases h with (h | h) | h
  · exact .inl (List.mem_of_mem_take h)
  · exact .inr h
  · exact .inl (List.mem_of_mem_drop h)

theorem toVs_getElem? (ρ : Ren) (l : List LV) (j : Nat) : (toVs ρ l)[j]? = (l[j]?).map (LV.toV ρ) := by rw [toVs_eq]; simp

/-- Cells written within an object of one's own. -/
theorem run_storeCells {vs new : List LV} {own : Own} {i off : Nat} (h : Rel W keep ρ g w) (hg : g.get i = some (.cells vs own)) (hown : own ≠ .ro)
    (hn : off + new.length ≤ vs.length) (hok : Lm.oks ρ g.next new) (hcell : ∀ v ∈ new, v.cell = true) :
    ∃ w', (storeCells (ρ.addr i off) (toVs ρ new)).run P w = .ok () w' ∧ Rel W keep ρ (g.set i (.cells (splice vs off new) own)) w' := by
  obtain ⟨hi, h1, h2, C, ty, fz, hb, hC, hc, hf, hop⟩ := h.obj i _ hg
  have hmine : (LObj.cells vs own).mine = true := by cases own <;> simp_all [LObj.mine]
  obtain ⟨C', hr, hs, hget⟩ := run_storeCells_aux (P := P) (b := ρ.blk i) (base := ρ.base i + off) (toVs ρ new) 0 C w hb
    (by rw [toVs_length]; omega) (hf hown) (fun v hv => by
      rw [toVs_eq] at hv
      obtain ⟨u, hu, rfl⟩ := List.mem_map.1 hv
      exact LV.not_agg (hcell u hu))
  refine ⟨_, hr, h.turn hg hmine ⟨?_, ?_, C', ty, fz, ?_, by rw [splice_length hn, hs]; exact hC, ?_, ?_, ?_⟩⟩
  · exact (oks_iff _ _ _).2 fun v hv => (splice_mem hv).elim ((oks_iff _ _ _).1 h1 v) ((oks_iff _ _ _).1 hok v)
  · exact fun v hv => (splice_mem hv).elim (h2 v) (hcell v)
  · have hlt := (Array.getElem?_eq_some_iff.1 hb).1
    simp [hlt]
  · intro j v hj
    rw [splice_get (by omega)] at hj
    rw [hget, toVs_length]
    by_cases hin : off ≤ j ∧ j < off + new.length
    · rw [if_pos hin] at hj
      rw [if_pos (by omega), toVs_getElem?, show ρ.base i + j - (ρ.base i + off + 0) = j - off by omega, hj]
      rfl
    · rw [if_neg hin] at hj
      rw [if_neg (by omega)]
      exact hc j v hj
  · rw [hs]; exact hf
  · intro e
    rw [hs]
    exact hop e

/-! ### New objects -/
theorem Rel.new {o : LObj} {x : Obj} {cap : Nat} (h : Rel W keep ρ g w)
    (ho : ObjR (ρ.put g.next w.heap.size 0 cap) (g.next + 1) { w with heap := w.heap.push x } g.next o) :
    Rel W keep (ρ.put g.next w.heap.size 0 cap) (g.alloc o) { w with heap := w.heap.push x } := by
  have hx : Ren.Ext g.next ρ (ρ.put g.next w.heap.size 0 cap) := Ren.put_ext _ _ _ _ _
  have hget : ∀ b, b < w.heap.size → (w.heap.push x)[b]? = w.heap[b]? := fun b hb => by
    rw [Array.getElem?_push, if_neg (by omega)]
  have hblk : ∀ j p, g.get j = some p → (ρ.put g.next w.heap.size 0 cap).blk j = ρ.blk j ∧ ρ.blk j < w.heap.size := fun j p hj =>
    ⟨(hx j (h.obj j p hj).1).1, (h.obj j p hj).2.lt⟩
  refine ⟨h.os, h.tape, h.output, by have := h.size; simp; omega, fun b hb => ⟨(h.kept b hb).1, ?_⟩, fun j p hj => ?_, fun j k p q hj hk hne hpq => ?_, fun j p hj hp => ?_⟩
  · rw [← (h.kept b hb).2]
    exact hget b (by have := (h.kept b hb).1; have := h.size; omega)
  · simp only [LHeap.get_alloc] at hj
    split at hj
    · rename_i e; subst e; cases hj
      exact ⟨by simp, ho⟩
    · have := (h.obj j p hj).1
      refine ⟨by simp; omega, ObjR.ext this hx (by simp) ((h.obj j p hj).2.heap ?_)⟩
      exact hget _ (hblk j p hj).2
  · simp only [LHeap.get_alloc] at hj hk
    split at hj <;> split at hk
    · rename_i e1 e2; exact absurd (e1.trans e2.symm) hne
    · rename_i e1 e2; subst e1
      rw [(hblk k q hk).1, Ren.put_blk]
      have := (hblk k q hk).2; omega
    · rename_i e1 e2; subst e2
      rw [(hblk j p hj).1, Ren.put_blk]
      have := (hblk j p hj).2; omega
    · rw [(hblk j p hj).1, (hblk k q hk).1]; exact h.inj _ _ _ _ hj hk hne hpq
  · simp only [LHeap.get_alloc] at hj
    split at hj
    · rename_i e; subst e
      intro hk
      have := (h.kept _ hk).1
      have := h.size
      rw [Ren.put_blk] at *
      omega
    · rw [(hblk j p hj).1]; exact h.mine _ _ hj hp

/-- A new row of cells, all known. -/
theorem Rel.newCells {vs : List LV} {ty : TypeId} (h : Rel W keep ρ g w) (hok : Lm.oks ρ g.next vs) (hcell : ∀ v ∈ vs, v.cell = true) :
    Rel W keep (ρ.put g.next w.heap.size 0 0) (g.alloc (.cells vs .ex)) { w with heap := w.heap.push (.cells (toVs ρ vs).toArray ty) } := by
  have hx : Ren.Ext g.next ρ (ρ.put g.next w.heap.size 0 0) := Ren.put_ext _ _ _ _ _
  refine h.new ⟨oks_ext hx (by simp) vs hok, hcell, (toVs ρ vs).toArray, ty, (0, 0), ?_, ?_, fun j v hj => ?_, fun _ o _ => by simp, fun e => by cases e⟩
  · simp
  · simp [toVs_length]
  · rw [Ren.put_base, Nat.zero_add, LV.toV_ext hx v ((oks_iff _ _ _).1 hok v (List.mem_of_getElem? hj))]
    simp [toVs_getElem?, hj]
theorem run_newRow (ty : TypeId) (C : Array Value) (w : World) : (newRow ty C).run P w = .ok ⟨w.heap.size, 0, none⟩ { w with heap := w.heap.push (.cells C ty) } := rfl
theorem run_newObj (o : Obj) (w : World) : (newObj o).run P w = .ok w.heap.size { w with heap := w.heap.push o } := rfl
theorem Ren.put_addr (ρ : Ren) (n b cap : Nat) : (ρ.put n b 0 cap).addr n 0 = ⟨b, 0, none⟩ := by simp [Ren.addr]

/-- A new row that has spare cells behind those that are known. -/
theorem Rel.newOpen {vs : List LV} {rest : Array Value} {ty : TypeId} {fz : Nat × Nat} (h : Rel W keep ρ g w) (hok : Lm.oks ρ g.next vs) (hcell : ∀ v ∈ vs, v.cell = true)
    (hfz : ∀ o, o < vs.length + rest.size → ¬ (fz.1 ≤ o ∧ o < fz.2)) :
    Rel W keep (ρ.put g.next w.heap.size 0 (vs.length + rest.size)) (g.alloc (.cells vs .op)) { w with heap := w.heap.push (.cells ((toVs ρ vs).toArray ++ rest) ty fz) } := by
  have hx : Ren.Ext g.next ρ (ρ.put g.next w.heap.size 0 (vs.length + rest.size)) := Ren.put_ext _ _ _ _ _
  refine h.new ⟨oks_ext hx (by simp) vs hok, hcell, (toVs ρ vs).toArray ++ rest, ty, fz, ?_, ?_, fun j v hj => ?_, fun _ o ho => hfz o (by simpa [toVs_length] using ho), fun _ => ?_⟩
  · simp
  · simp [toVs_length]
  · have hlt : j < vs.length := (List.getElem?_eq_some_iff.1 hj).1
    rw [Ren.put_base, Nat.zero_add, LV.toV_ext hx v ((oks_iff _ _ _).1 hok v (List.mem_of_getElem? hj))]
    rw [Array.getElem?_append_left (by simp [toVs_length]; exact hlt)]
    simp [toVs_getElem?, hj]
  · simp [toVs_length]

/-- An object may be forgotten. -/
theorem Rel.erase {i : Nat} (h : Rel W keep ρ g w) : Rel W keep ρ (g.erase i) w where
  os := h.os
  tape := h.tape
  output := h.output
  size := h.size
  kept := h.kept
  obj j p hj := by
    simp only [LHeap.get_erase] at hj
    split at hj
    · cases hj
    · exact h.obj j p hj
  inj j k p q hj hk := by
    simp only [LHeap.get_erase] at hj hk
    split at hj
    · cases hj
    · split at hk
      · cases hk
      · exact h.inj j k p q hj hk
  mine j p hj := by
    simp only [LHeap.get_erase] at hj
    split at hj
    · cases hj
    · exact h.mine j p hj

/-- A draw changes nothing. -/
theorem Rel.drawn {n : Nat} (h : Rel W keep ρ g w) : Rel W keep ρ g { w with drawn := n } :=
  ⟨h.os, h.tape, h.output, h.size, h.kept, fun i o hi => ⟨(h.obj i o hi).1, (h.obj i o hi).2.heap rfl⟩, h.inj, h.mine⟩

theorem LHeap.get_erase_alloc {i j : Nat} {o p : LObj} (h : ((g.erase i).alloc o).get j = some p) : (j = g.next ∧ p = o) ∨ (j ≠ g.next ∧ j ≠ i ∧ g.get j = some p) := by
  simp only [LHeap.get_alloc, LHeap.next_erase, LHeap.get_erase] at h
  by_cases e : j = g.next
  · rw [if_pos e] at h; exact .inl ⟨e, (Option.some.inj h).symm⟩
  · rw [if_neg e] at h
    by_cases e2 : j = i
    · rw [if_pos e2] at h; cases h
    · rw [if_neg e2] at h; exact .inr ⟨e, e2, h⟩

/-- A row that may grow, grown in its own block: the elder object is forgotten, the new one begins at 'off' in the same block. -/
theorem Rel.regrow {i off : Nat} {vs vs' : List LV} {C' : Array Value} {ty : TypeId} {fz : Nat × Nat} (h : Rel W keep ρ g w) (hg : g.get i = some (.cells vs .op))
    (hok : Lm.oks ρ g.next vs') (hcell : ∀ v ∈ vs', v.cell = true) (hoff : off ≤ ρ.cap i) (hC : C'.size = ρ.base i + ρ.cap i) (hlen : off + vs'.length ≤ ρ.cap i)
    (hget : ∀ j v, vs'[j]? = some v → C'[ρ.base i + off + j]? = some (v.toV ρ)) (hfz : ∀ o, o < C'.size → ¬ (fz.1 ≤ o ∧ o < fz.2)) :
    Rel W keep (ρ.put g.next (ρ.blk i) (ρ.base i + off) (ρ.cap i - off)) ((g.erase i).alloc (.cells vs' .op)) { w with heap := w.heap.setIfInBounds (ρ.blk i) (.cells C' ty fz) } := by
  have hx : Ren.Ext g.next ρ (ρ.put g.next (ρ.blk i) (ρ.base i + off) (ρ.cap i - off)) := Ren.put_ext _ _ _ _ _
  have hi := h.obj i _ hg
  have hm : (LObj.cells vs .op).mine = true := rfl
  have hlt := hi.2.lt
  have hblk : ∀ j p, g.get j = some p → (ρ.put g.next (ρ.blk i) (ρ.base i + off) (ρ.cap i - off)).blk j = ρ.blk j := fun j p hj => (hx j (h.obj j p hj).1).1
  refine ⟨h.os, h.tape, h.output, by simpa using h.size, fun b hb => ⟨(h.kept b hb).1, ?_⟩, fun j p hj => ?_, fun j k p q hj hk hne hpq => ?_, fun j p hj hp => ?_⟩
  · have : ρ.blk i ≠ b := fun e => h.mine i _ hg hm (e ▸ hb)
    rw [← (h.kept b hb).2]
    simp [Array.getElem?_setIfInBounds_ne this]
  · rcases LHeap.get_erase_alloc hj with ⟨e, e'⟩ | ⟨e1, e2, hj⟩
    · subst e; subst e'
      refine ⟨by simp, oks_ext hx (by simp) vs' hok, hcell, C', ty, fz, ?_, ?_, fun j v hj => ?_, fun _ => hfz, fun _ => ?_⟩
      · simp [hlt]
      · simp; omega
      · rw [Ren.put_base, LV.toV_ext hx v ((oks_iff _ _ _).1 hok v (List.mem_of_getElem? hj))]
        exact hget j v hj
      · simp; omega
    · have hj1 := (h.obj j p hj).1
      refine ⟨by simp; omega, ObjR.ext hj1 hx (by simp) ((h.obj j p hj).2.heap ?_)⟩
      have : ρ.blk i ≠ ρ.blk j := h.inj i j _ p hg hj (Ne.symm e2) (.inl hm)
      simp [Array.getElem?_setIfInBounds_ne this]
  · rcases LHeap.get_erase_alloc hj with ⟨e, e'⟩ | ⟨e1, e2, hj⟩ <;> rcases LHeap.get_erase_alloc hk with ⟨f, f'⟩ | ⟨f1, f2, hk⟩
    · exact absurd (e.trans f.symm) hne
    · subst e
      rw [hblk k q hk, Ren.put_blk]
      exact h.inj i k _ q hg hk (Ne.symm f2) (.inl hm)
    · subst f
      rw [hblk j p hj, Ren.put_blk]
      exact h.inj j i p _ hj hg e2 (.inr hm)
    · rw [hblk j p hj, hblk k q hk]; exact h.inj _ _ _ _ hj hk hne hpq
  · rcases LHeap.get_erase_alloc hj with ⟨e, e'⟩ | ⟨e1, e2, hj⟩
    · subst e
      rw [Ren.put_blk]; exact h.mine i _ hg hm
    · rw [hblk j p hj]; exact h.mine _ _ hj hp

end Go.Lm
