/-
  The logical machine, part U: what a call is handed, as logical values over objects that are only read.
-/
import Derived.Test.YtaofgdibpbpalaaLmT
import Derived.OpenShut
namespace Go.Lm

variable {P : Program} {W : World} {keep : Nat → Prop} {ρ : Ren} {g : LHeap} {w : World} {H : Type} {enc : TypeId × Value → H}

/-- One by one. -/
def Alls (R : TypeId → List LV → Prop) : List TypeId → List (List LV) → Prop
  | [], [] => True
  | t :: ts, ys :: yss => R t ys ∧ Alls R ts yss
  | _, _ => False
/-- Cells that are of a type. -/
def Shp (P : Program) (g : LHeap) : Nat → TypeId → List LV → Prop
  | 0, _, _ => False
  | n + 1, t, xs =>
    match P.underlying t with
    | some .bool => ∃ b, xs = [.bool b]
    | some (.int k) => ∃ i, xs = [.int k i] ∧ k.min ≤ i ∧ i ≤ k.max
    | some .string => ∃ s, xs = [.str s] ∧ s.length ≤ maxLen
    | some (.slice e) => xs = [.nils] ∨ (∃ a, xs = [.tail a 0 0 1 true]) ∨
        ∃ a len cap xss, xs = [.slice a 0 len (.ex cap)] ∧ len ≤ cap ∧ cap ≤ maxLen ∧ g.get a = some (.cells xss.flatten .ro) ∧ (∀ ys ∈ xss, ys.length = P.cellsOf e) ∧
          Alls (Shp P g n) (List.replicate len e) xss
    | some (.struct fs) => ∃ xss, xs = xss.flatten ∧ Alls (Shp P g n) (fs.toList.map (·.type)) xss
    | some (.array m e) => ∃ xss, xs = xss.flatten ∧ (∀ ys ∈ xss, ys.length = P.cellsOf e) ∧ Alls (Shp P g n) (List.replicate m e) xss
    | _ => False
theorem Alls.mono {R S : TypeId → List LV → Prop} (h : ∀ t ys, R t ys → S t ys) : ∀ {ts : List TypeId} {yss : List (List LV)}, Alls R ts yss → Alls S ts yss
  | [], [], _ => trivial
  | _ :: _, _ :: _, ha => ⟨h _ _ ha.1, ha.2.mono h⟩
  | [], _ :: _, ha => ha.elim
  | _ :: _, [], ha => ha.elim
theorem Shp.mono {g g' : LHeap} (h : ∀ i o, g.get i = some o → g'.get i = some o) : ∀ (n : Nat) (t : TypeId) (xs : List LV), Shp P g n t xs → Shp P g' n t xs := by
  intro n
  induction n with
  | zero => intro t xs hs; exact hs
  | succ n ih =>
    intro t xs hs
    unfold Shp at hs ⊢
    split at hs
    · exact hs
    · exact hs
    · exact hs
    · rcases hs with hs | hs | ⟨a, len, cap, xss, h1, h2, h3, h4, h5, h6⟩
      · exact .inl hs
      · exact .inr (.inl hs)
      · exact .inr (.inr ⟨a, len, cap, xss, h1, h2, h3, h _ _ h4, h5, h6.mono ih⟩)
    · obtain ⟨xss, h1, h2⟩ := hs; exact ⟨xss, h1, h2.mono ih⟩
    · obtain ⟨xss, h1, h2, h3⟩ := hs; exact ⟨xss, h1, h2, h3.mono ih⟩
    · exact hs

/-- The fields lie one behind the other. -/
def tiles (P : Program) : List Field → Nat → Option Nat
  | [], off => some off
  | f :: fs, off => if Nat.beq f.offset off then tiles P fs (off + P.cellsOf f.type) else none
/-- A type of which the import is told. -/
def plainTy (P : Program) : Nat → TypeId → Bool
  | 0, _ => false
  | n + 1, t =>
    match P.underlying t with
    | some .bool | some (.int _) | some .string => true
    | some (.slice e) => Nat.blt 0 (P.cellsOf e) && plainTy P n e
    | some (.struct fs) => (match tiles P fs.toList 0 with | some z => Nat.beq z (P.cellsOf t) | none => false) && fs.toList.all fun f => plainTy P n f.type
    | some (.array m e) => Nat.beq (m * P.cellsOf e) (P.cellsOf t) && plainTy P n e
    | _ => false

/-- From (ρ, g) to (ρ', g'): more objects, all as they were, and only to be read. -/
structure Grown (W : World) (keep : Nat → Prop) (w : World) (ρ : Ren) (g : LHeap) (ρ' : Ren) (g' : LHeap) : Prop where
  ext : Ren.Ext g.next ρ ρ'
  le : g.next ≤ g'.next
  rel : Rel W keep ρ' g' w
  get : ∀ i o, g.get i = some o → g'.get i = some o
  ro : ∀ i o, g'.get i = some o → o.mine = false
theorem Grown.refl (h : Rel W keep ρ g w) (hro : ∀ i o, g.get i = some o → o.mine = false) : Grown W keep w ρ g ρ g := ⟨Ren.Ext.refl _ _, Nat.le_refl _, h, fun _ _ h => h, hro⟩
theorem Grown.trans {ρ1 ρ2 : Ren} {g1 g2 : LHeap} (h : Grown W keep w ρ g ρ1 g1) (k : Grown W keep w ρ1 g1 ρ2 g2) : Grown W keep w ρ g ρ2 g2 :=
  ⟨h.ext.trans k.ext h.le, Nat.le_trans h.le k.le, k.rel, fun i o hi => k.get i o (h.get i o hi), k.ro⟩

/-- An object that is there to be read. -/
theorem import_row {b off : Nat} {vs : List LV} {C : Array Value} {ty : TypeId} {fz : Nat × Nat} (h : Rel W keep ρ g w) (hro : ∀ i o, g.get i = some o → o.mine = false) (hv : oks ρ g.next vs) (hc : ∀ v ∈ vs, v.cell = true)
    (hb : w.heap[b]? = some (.cells C ty fz)) (hsz : off + vs.length ≤ C.size)
    (hcell : ∀ j v, vs[j]? = some v → C[off + j]? = some (v.toV ρ)) : Grown W keep w ρ g (ρ.put g.next b off 0) (g.alloc (.cells vs .ro)) := by
  have hx := Ren.put_ext ρ g.next b off 0
  have hnew : ∀ i o, (g.alloc (.cells vs .ro)).get i = some o → (i = g.next ∧ o = .cells vs .ro) ∨ (i < g.next ∧ g.get i = some o) := by
    intro i o hi
    simp only [LHeap.get_alloc] at hi
    split at hi
    · rename_i e; cases hi; exact .inl ⟨e, rfl⟩
    · exact .inr ⟨(h.obj i o hi).1, hi⟩
  have hro' : ∀ i o, (g.alloc (.cells vs .ro)).get i = some o → o.mine = false := by
    intro i o hi
    rcases hnew i o hi with ⟨rfl, rfl⟩ | ⟨_, h2⟩
    · rfl
    · exact hro i o h2
  refine ⟨hx, by simp, ⟨h.os, h.tape, h.output, h.size, h.kept, fun i o hi => ?_, fun i j o p hi hj hij hm => ?_, fun i o hi hm => ?_⟩, fun i o hi => ?_, hro'⟩
  · rcases hnew i o hi with ⟨rfl, rfl⟩ | ⟨h1, h2⟩
    · refine ⟨by simp, oks_ext hx (by simp) vs hv, hc, C, ty, fz, by rw [Ren.put_blk]; exact hb, by rw [Ren.put_base]; exact hsz, fun j v hj => ?_, fun e => (e rfl).elim, fun e => by cases e⟩
      rw [Ren.put_base, LV.toV_ext hx v ((oks_iff _ _ _).1 hv v (List.mem_of_getElem? hj))]
      exact hcell j v hj
    · exact ⟨by simp; omega, ((h.obj i o h2).2).ext h1 hx (by simp)⟩
  · rw [hro' i o hi, hro' j p hj] at hm
    simp at hm
  · rw [hro' i o hi] at hm
    cases hm
  · have := (h.obj i o hi).1
    simp only [LHeap.get_alloc]
    rw [if_neg (by omega)]
    exact hi
/-- A number that no object bears: an empty slice points there. -/
theorem import_none {b off : Nat} {sp : Option Nat} (h : Rel W keep ρ g w) (hro : ∀ i o, g.get i = some o → o.mine = false) :
    Grown W keep w ρ g { ρ.put g.next b off 0 with spot := fun j => if j = g.next then sp else ρ.spot j } { g with next := g.next + 1 } := by
  have hx : Ren.Ext g.next ρ { ρ.put g.next b off 0 with spot := fun j => if j = g.next then sp else ρ.spot j } := fun j hj => by
    simp [Ren.put, Nat.ne_of_lt hj]
  refine ⟨hx, by simp, ⟨h.os, h.tape, h.output, h.size, h.kept, fun i o hi => ?_, fun i j o p hi hj hij hm => ?_, fun i o hi hm => ?_⟩, fun i o hi => hi, hro⟩
  · obtain ⟨h1, h2⟩ := h.obj i o hi
    exact ⟨Nat.lt_succ_of_lt h1, h2.ext h1 hx (by simp)⟩
  · rw [hro i o hi, hro j p hj] at hm
    simp at hm
  · rw [hro i o hi] at hm
    cases hm

/-- What the import of cells comes to. -/
def Imp (P : Program) (W : World) (keep : Nat → Prop) (w : World) (ρ : Ren) (g : LHeap) (n : Nat) (t : TypeId) (cs : List Value) : Prop :=
  ∃ ρ' g' xs, Grown W keep w ρ g ρ' g' ∧ toVs ρ' xs = cs ∧ oks ρ' g'.next xs ∧ (∀ v ∈ xs, v.cell = true) ∧ Shp P g' n t xs
theorem import_list {n : Nat} {L : List (TypeId × List Value)} (hl : ∀ (ρ : Ren) (g : LHeap) (t : TypeId) (cs : List Value), (t, cs) ∈ L → Rel W keep ρ g w → (∀ i o, g.get i = some o → o.mine = false) → Imp P W keep w ρ g n t cs) :
    ∀ (M : List (TypeId × List Value)), (∀ p ∈ M, p ∈ L) → ∀ (ρ : Ren) (g : LHeap), Rel W keep ρ g w → (∀ i o, g.get i = some o → o.mine = false) →
      ∃ ρ' g' xss, Grown W keep w ρ g ρ' g' ∧ xss.map (toVs ρ') = M.map (·.2) ∧ oks ρ' g'.next xss.flatten ∧ (∀ v ∈ xss.flatten, v.cell = true) ∧ Alls (Shp P g' n) (M.map (·.1)) xss := by
  intro M
  induction M with
  | nil => intro _ ρ g hr hro; exact ⟨ρ, g, [], Grown.refl hr hro, rfl, by simp [oks], by simp, trivial⟩
  | cons p M ih =>
    intro hM ρ g hr hro
    obtain ⟨ρ1, g1, xs, G1, e1, o1, c1, s1⟩ := hl ρ g p.1 p.2 (hM p (by simp)) hr hro
    obtain ⟨ρ2, g2, xss, G2, e2, o2, c2, s2⟩ := ih (fun q hq => hM q (by simp [hq])) ρ1 g1 G1.rel G1.ro
    refine ⟨ρ2, g2, xs :: xss, G1.trans G2, ?_, ?_, ?_, ?_⟩
    · simp only [List.map_cons, e2, List.cons.injEq, and_true]
      rw [toVs_ext G2.ext xs o1, e1]
    · rw [List.flatten_cons, oks_append]
      exact ⟨oks_ext G2.ext G2.le xs o1, o2⟩
    · intro v hv
      rw [List.flatten_cons, List.mem_append] at hv
      exact hv.elim (c1 v) (c2 v)
    · exact ⟨Shp.mono G2.get _ _ _ s1, s2⟩
theorem toVs_flatten (ρ : Ren) : ∀ (xss : List (List LV)), toVs ρ xss.flatten = (xss.map (toVs ρ)).flatten
  | [] => rfl
  | xs :: xss => by rw [List.flatten_cons, toVs_append, toVs_flatten ρ xss]; rfl
theorem alls_len {R : TypeId → List LV → Prop} : ∀ {ts : List TypeId} {yss : List (List LV)}, Alls R ts yss → yss.length = ts.length
  | [], [], _ => rfl
  | _ :: _, _ :: _, h => by simp [alls_len h.2]
  | [], _ :: _, h => h.elim
  | _ :: _, [], h => h.elim

/-- consecutive chunks of one size -/
theorem chunks {α : Type} (c : Nat) : ∀ (m : Nat) (l : List α), l.length = m * c → ((List.range m).map fun i => (l.drop (i * c)).take c).flatten = l
  | 0, l, h => by simp at h; simp [h]
  | m + 1, l, h => by
    rw [List.range_succ_eq_map, List.map_cons, List.flatten_cons, List.map_map]
    have := chunks c m (l.drop c) (by rw [List.length_drop, h, Nat.add_mul]; omega)
    have e : ((fun i => (l.drop (i * c)).take c) ∘ Nat.succ) = fun i => ((l.drop c).drop (i * c)).take c := by
      funext i
      simp only [Function.comp, List.drop_drop, Nat.succ_mul]
      rw [Nat.add_comm]
    rw [e, this]
    simp
theorem tiles_chunks {α : Type} : ∀ (fs : List Field) (off z : Nat) (l : List α), tiles P fs off = some z → l.length = z → ((fs.map fun f => (l.drop f.offset).take (P.cellsOf f.type)).flatten) = l.drop off
  | [], off, z, l, h, hl => by simp [tiles] at h; subst h; simp [← hl]
  | f :: fs, off, z, l, h, hl => by
    simp only [tiles] at h
    split at h
    · rename_i hb
      have he := Nat.eq_of_beq_eq_true hb
      rw [List.map_cons, List.flatten_cons, tiles_chunks fs _ z l h hl, he, ← List.drop_drop]
      exact List.take_append_drop _ _
    · cases h

theorem import_cells (n : Nat) : ∀ (m : Nat) (t : TypeId) (cs : List Value) (x : DataW H × List MemPlace) (ρ : Ren) (g : LHeap), plainTy P n t = true → DataW.trod enc P w 0 (fun _ => true) true m t cs = some x →
    Rel W keep ρ g w → (∀ i o, g.get i = some o → o.mine = false) → Imp P W keep w ρ g n t cs := by
  induction n with
  | zero => intro m t cs x ρ g h; cases h
  | succ n ih =>
    intro m t cs x ρ g hp hd hr hro
    unfold plainTy at hp
    split at hp
    · rename_i ht
      obtain ⟨b, rfl, _⟩ := DataW.trod_bool ht hd
      exact ⟨ρ, g, [.bool b], Grown.refl hr hro, rfl, by simp [oks, LV.ok], by simp [LV.cell], by unfold Shp; rw [ht]; exact ⟨b, rfl⟩⟩
    · rename_i k ht
      obtain ⟨i, rfl, _, hw⟩ := DataW.trod_int ht hd
      simp only [Lit.wf, Bool.and_eq_true, decide_eq_true_eq] at hw
      exact ⟨ρ, g, [.int k i], Grown.refl hr hro, rfl, by simp [oks, LV.ok], by simp [LV.cell], by unfold Shp; rw [ht]; exact ⟨i, rfl, hw⟩⟩
    · rename_i ht
      obtain ⟨s, rfl, _, hw⟩ := DataW.trod_string ht hd
      exact ⟨ρ, g, [.str s.data.toList], Grown.refl hr hro, by simp [toVs, LV.toV], by simp [oks, LV.ok], by simp [LV.cell], by unfold Shp; rw [ht]; exact ⟨_, rfl, by rw [Array.length_toList]; exact hw⟩⟩
    · rename_i e ht
      simp only [Bool.and_eq_true] at hp
      obtain ⟨hc, hp⟩ := hp
      have hc : 0 < P.cellsOf e := Nat.le_of_ble_eq_true hc
      rcases DataW.trod_slice ht hd with ⟨rfl, _⟩ | ⟨a, len, cap, elems, rest, m', _, rfl, _, _, hl, hm, hlen, hel, hsp, _⟩
      · exact ⟨ρ, g, [.nils], Grown.refl hr hro, rfl, by simp [oks, LV.ok], by simp [LV.cell], by unfold Shp; rw [ht]; exact .inl rfl⟩
      · obtain ⟨hrl, hrs⟩ := hsp rfl
        by_cases h0 : cap = 0
        · subst h0
          have : len = 0 := by omega
          subst this
          have G := import_none (b := a.block) (off := a.off) (sp := a.spot) hr hro
          refine ⟨_, _, [.tail g.next 0 0 1 true], G, ?_, ?_, by simp [LV.cell], by unfold Shp; rw [ht]; exact .inr (.inl ⟨_, rfl⟩)⟩
          · simp [toVs, LV.toV, Ren.taddr, Ren.zaddr, Ren.put, Addr.add]
          · simp [oks, LV.ok]
        · -- each element's cells
          have each : ∀ i, i < cap → ∃ cs' y, w.cells? 0 (a.add (i * P.cellsOf e)) (P.cellsOf e) = some cs' ∧ DataW.trod enc P w 0 (fun _ => true) true m' e cs' = some y := by
            intro i hi
            by_cases hil : i < len
            · have h1 := hel i hil
              rw [List.getElem?_eq_getElem (by omega)] at h1
              obtain ⟨cs', h2, h3⟩ := Option.bind_eq_some_iff.1 h1
              exact ⟨cs', _, h2, h3⟩
            · have h1 := hrs (i - len) (by omega)
              rw [show len + (i - len) = i by omega, List.getElem?_eq_getElem (by omega)] at h1
              obtain ⟨cs', h2, h3⟩ := Option.bind_eq_some_iff.1 h1
              exact ⟨cs', _, h2, h3⟩
          obtain ⟨cs0, y0, hcs0, _⟩ := each 0 (by omega)
          have hcell0 := (World.cells?_some hcs0).2.2 0 hc
          rw [show (a.add (0 * P.cellsOf e)).add 0 = a by simp [Addr.add]] at hcell0
          have hspot : a.spot = none := by
            unfold World.cell? at hcell0
            have : ∃ v, cs0[0]? = some v := ⟨_, List.getElem?_eq_getElem (by rw [(World.cells?_some hcs0).2.1]; exact hc)⟩
            obtain ⟨v, hv⟩ := this
            rw [hv] at hcell0
            split at hcell0
            · split at hcell0
              · cases hcell0
              · rename_i hs; simpa using hs
            · cases hcell0
          have hblk : ∃ C ty fz, w.heap[a.block]? = some (.cells C ty fz) := by
            unfold World.cell? at hcell0
            split at hcell0
            · exact ⟨_, _, _, by assumption⟩
            · have : ∃ v, cs0[0]? = some v := ⟨_, List.getElem?_eq_getElem (by rw [(World.cells?_some hcs0).2.1]; exact hc)⟩
              obtain ⟨v, hv⟩ := this
              rw [hv] at hcell0; cases hcell0
          obtain ⟨C, ty, fz, hC⟩ := hblk
          have cellAt : ∀ k, w.cell? (a.add k) = C[a.off + k]? := by
            intro k
            have hb : (a.add k).block = a.block := by unfold Addr.add; split <;> rfl
            have ho : (a.add k).off = a.off + k := by unfold Addr.add; split <;> simp_all
            have hs : (a.add k).spot = none := by unfold Addr.add; split <;> simp_all
            unfold World.cell?
            rw [hb, hC]
            simp only [hs, ho, Option.isSome_none, Bool.false_eq_true, if_false]
          have addadd : ∀ i j, (a.add i).add j = a.add (i + j) := by
            intro i j
            unfold Addr.add
            by_cases hi : i = 0 <;> by_cases hj : j = 0 <;> simp [hi, hj, Nat.add_assoc]
          let M : List (TypeId × List Value) := (List.range len).map fun i => (e, ((w.cells? 0 (a.add (i * P.cellsOf e)) (P.cellsOf e)).getD []))
          obtain ⟨ρ1, g1, xss, G1, e1, o1, c1, s1⟩ := import_list (P := P) (W := W) (keep := keep) (w := w) (L := M) (n := n) (fun ρ g t' cs' hmem hr hro => by
            obtain ⟨i, hi, heq⟩ := List.mem_map.1 hmem
            cases heq
            obtain ⟨cs'', y, h2, h3⟩ := each i (by have := List.mem_range.1 hi; omega)
            rw [h2]
            exact ih m' e cs'' y ρ g hp h3 hr hro) M (fun _ h => h) ρ g hr hro
          have hlens : ∀ ys ∈ xss, ys.length = P.cellsOf e := by
            intro ys hys
            obtain ⟨i, hi⟩ := List.getElem?_of_mem hys
            have h1 : (xss.map (toVs ρ1))[i]? = some (toVs ρ1 ys) := by rw [List.getElem?_map, hi]; rfl
            rw [e1] at h1
            simp only [M, List.map_map, List.getElem?_map] at h1
            obtain ⟨j, hj, h2⟩ := Option.map_eq_some_iff.1 h1
            have hj' : i < len ∧ j = i := by
              have := List.getElem?_eq_some_iff.1 hj
              obtain ⟨h3, h4⟩ := this
              simp at h3 h4
              exact ⟨h3, h4.symm⟩
            obtain ⟨cs'', y, h3, _⟩ := each j (by omega)
            simp only [Function.comp, h3, Option.getD_some] at h2
            have := (World.cells?_some h3).2.1
            rw [h2, toVs_length] at this
            exact this
          have htot : xss.flatten.length = len * P.cellsOf e := by
            have hxl : xss.length = len := by
              have := congrArg List.length e1
              simpa [M] using this
            have hsum : ∀ (l : List (List LV)), (∀ ys ∈ l, ys.length = P.cellsOf e) → l.flatten.length = l.length * P.cellsOf e := by
              intro l
              induction l with
              | nil => intro _; simp
              | cons y l ihl =>
                intro h
                rw [List.flatten_cons, List.length_append, ihl fun ys hys => h ys (by simp [hys]), h y (by simp), List.length_cons, Nat.add_mul]
                omega
            rw [hsum xss hlens, hxl]
          have hvals : ∀ j v, xss.flatten[j]? = some v → C[a.off + j]? = some (v.toV ρ1) := by
            intro j v hj
            have h1 : (toVs ρ1 xss.flatten)[j]? = some (v.toV ρ1) := by rw [toVs_eq, List.getElem?_map, hj]; rfl
            rw [toVs_flatten, e1] at h1
            have hjl : j < len * P.cellsOf e := by rw [← htot]; exact (List.getElem?_eq_some_iff.1 hj).1
            have key : ∀ j, j < len * P.cellsOf e → (M.map (·.2)).flatten[j]? = C[a.off + j]? := by
              have hM : M.map (·.2) = (List.range len).map fun i => ((List.range (len * P.cellsOf e)).map fun k => (w.cell? (a.add k)).getD default).drop (i * P.cellsOf e) |>.take (P.cellsOf e) := by
                simp only [M, List.map_map]
                refine List.map_congr_left fun i hi => ?_
                have hi := List.mem_range.1 hi
                obtain ⟨cs'', y, h3, _⟩ := each i (by omega)
                obtain ⟨_, hlen', hcl⟩ := World.cells?_some h3
                show ((w.cells? 0 (a.add (i * P.cellsOf e)) (P.cellsOf e)).getD []) = _
                rw [h3, Option.getD_some]
                apply List.ext_getElem?
                intro k
                rw [List.getElem?_take]
                by_cases hk : k < P.cellsOf e
                · rw [if_pos hk, List.getElem?_drop, List.getElem?_map, List.getElem?_range (by
                    have : (i + 1) * P.cellsOf e ≤ len * P.cellsOf e := Nat.mul_le_mul_right _ (by omega)
                    rw [Nat.add_mul] at this
                    omega)]
                  have h4 := hcl k hk
                  rw [addadd] at h4
                  rw [Option.map_some, h4, List.getElem?_eq_getElem (by omega)]
                  rfl
                · rw [if_neg hk, List.getElem?_eq_none (by omega)]
              intro j hj
              rw [hM, chunks (P.cellsOf e) len _ (by simp), List.getElem?_map, List.getElem?_range hj, Option.map_some]
              -- the j-th cell is there
              have hdiv : j / P.cellsOf e < len := (Nat.div_lt_iff_lt_mul hc).2 hj
              obtain ⟨cs'', y, h3, _⟩ := each (j / P.cellsOf e) (by omega)
              obtain ⟨_, hlen', hcl⟩ := World.cells?_some h3
              have h4 := hcl (j % P.cellsOf e) (Nat.mod_lt _ hc)
              rw [addadd, Nat.mul_comm, Nat.div_add_mod, List.getElem?_eq_getElem (by rw [hlen']; exact Nat.mod_lt _ hc)] at h4
              rw [← cellAt, h4]
              rfl
            rw [key j hjl] at h1
            exact h1
          have hsize : a.off + xss.flatten.length ≤ C.size := by
            rcases Nat.eq_zero_or_pos len with hz | hz
            · -- the first cell of the spare room is there
              rw [htot, hz, Nat.zero_mul]
              have : ∃ v, C[a.off + 0]? = some v := by
                have h2 := cellAt 0
                rw [show a.add 0 = a by simp [Addr.add], hcell0] at h2
                have h5 : ∃ v, cs0[0]? = some v := ⟨_, List.getElem?_eq_getElem (by rw [(World.cells?_some hcs0).2.1]; exact hc)⟩
                obtain ⟨v, hv⟩ := h5
                exact ⟨v, by rw [← h2, hv]⟩
              obtain ⟨v, hv⟩ := this
              have := (Array.getElem?_eq_some_iff.1 hv).1
              omega
            · rw [htot]
              have hpos : 0 < len * P.cellsOf e := Nat.mul_pos hz hc
              have hlast : ∃ v, xss.flatten[len * P.cellsOf e - 1]? = some v := ⟨_, List.getElem?_eq_getElem (by rw [htot]; omega)⟩
              obtain ⟨v, hv⟩ := hlast
              have := (Array.getElem?_eq_some_iff.1 (hvals _ _ hv)).1
              omega
          have G2 := import_row (b := a.block) (off := a.off) G1.rel G1.ro o1 c1 hC hsize hvals
          refine ⟨_, _, [.slice g1.next 0 len (.ex cap)], G1.trans G2, ?_, ?_, by simp [LV.cell], ?_⟩
          · simp only [toVs, LV.toV, Ren.addr, Ren.put_blk, Ren.put_base, Nat.add_zero]
            obtain ⟨ab, ao, asp⟩ := a
            simp only at hspot
            rw [hspot]
          · simp only [oks, LV.ok, LHeap.next_alloc]
            exact ⟨⟨by omega, hl⟩, trivial⟩
          · unfold Shp
            rw [ht]
            refine .inr (.inr ⟨g1.next, len, cap, xss, rfl, hl, hm, by simp, hlens, ?_⟩)
            have := s1.mono (fun t ys hs => Shp.mono G2.get n t ys hs)
            have hM1 : M.map (·.1) = List.replicate len e := by
              simp only [M, List.map_map]
              apply List.ext_getElem?
              intro i
              simp only [List.getElem?_map, List.getElem?_replicate]
              by_cases hi : i < len
              · rw [List.getElem?_range hi, if_pos hi]; rfl
              · rw [List.getElem?_eq_none (by simpa using hi), if_neg hi]; rfl
            rw [hM1] at this
            exact this
    · rename_i fs ht
      simp only [Bool.and_eq_true] at hp
      obtain ⟨hp1, hp2⟩ := hp
      split at hp1
      · rename_i z hz
        have hz' := Nat.eq_of_beq_eq_true hp1
        obtain ⟨xs, m', _, _, hlen, hxl, hel⟩ := DataW.trod_struct ht hd
        let M : List (TypeId × List Value) := fs.toList.map fun f => (f.type, (cs.drop f.offset).take (P.cellsOf f.type))
        obtain ⟨ρ1, g1, xss, G1, e1, o1, c1, s1⟩ := import_list (P := P) (W := W) (keep := keep) (w := w) (L := M) (n := n) (fun ρ g t' cs' hmem hr hro => by
          obtain ⟨f, hf, heq⟩ := List.mem_map.1 hmem
          cases heq
          obtain ⟨i, hi⟩ := List.getElem?_of_mem hf
          have hi' : fs[i]? = some f := by simpa using hi
          have h1 := hel i f hi'
          have hilt : i < xs.length := by rw [hxl]; exact (Array.getElem?_eq_some_iff.1 hi').1
          rw [List.getElem?_eq_getElem hilt] at h1
          exact ih m' f.type _ _ ρ g (List.all_eq_true.1 hp2 f hf) h1 hr hro) M (fun _ h => h) ρ g hr hro
        refine ⟨ρ1, g1, xss.flatten, G1, ?_, o1, c1, ?_⟩
        · rw [toVs_flatten, e1]
          have := tiles_chunks (P := P) fs.toList 0 z cs hz (by rw [hlen, hz'])
          simpa [M, List.map_map, Function.comp_def] using this
        · unfold Shp
          rw [ht]
          refine ⟨xss, rfl, ?_⟩
          have hM1 : M.map (·.1) = fs.toList.map (·.type) := by simp [M, List.map_map, Function.comp_def]
          rw [hM1] at s1
          exact s1
      · cases hp1
    · rename_i k e ht
      simp only [Bool.and_eq_true] at hp
      obtain ⟨hp1, hp2⟩ := hp
      have hz' := Nat.eq_of_beq_eq_true hp1
      obtain ⟨xs, m', _, _, hlen, hxl, hel⟩ := DataW.trod_array ht hd
      let M : List (TypeId × List Value) := (List.range k).map fun i => (e, (cs.drop (i * P.cellsOf e)).take (P.cellsOf e))
      obtain ⟨ρ1, g1, xss, G1, e1, o1, c1, s1⟩ := import_list (P := P) (W := W) (keep := keep) (w := w) (L := M) (n := n) (fun ρ g t' cs' hmem hr hro => by
        obtain ⟨i, hi, heq⟩ := List.mem_map.1 hmem
        cases heq
        have hi := List.mem_range.1 hi
        have h1 := hel i hi
        rw [List.getElem?_eq_getElem (by omega)] at h1
        exact ih m' e _ _ ρ g hp2 h1 hr hro) M (fun _ h => h) ρ g hr hro
      have hfl : (M.map (·.2)).flatten = cs := by
        have := chunks (P.cellsOf e) k cs (by rw [hlen, hz'])
        simpa [M, List.map_map, Function.comp_def] using this
      refine ⟨ρ1, g1, xss.flatten, G1, ?_, o1, c1, ?_⟩
      · rw [toVs_flatten, e1, hfl]
      · unfold Shp
        rw [ht]
        refine ⟨xss, rfl, ?_, ?_⟩
        · intro ys hys
          obtain ⟨i, hi⟩ := List.getElem?_of_mem hys
          have h1 : (xss.map (toVs ρ1))[i]? = some (toVs ρ1 ys) := by rw [List.getElem?_map, hi]; rfl
          rw [e1] at h1
          simp only [M, List.map_map, List.getElem?_map] at h1
          obtain ⟨j, hj, h2⟩ := Option.map_eq_some_iff.1 h1
          obtain ⟨h3, h4⟩ := List.getElem?_eq_some_iff.1 hj
          simp at h3 h4
          subst h4
          have h5 := congrArg List.length h2
          simp only [Function.comp, List.length_take, List.length_drop, toVs_length] at h5
          have : (i + 1) * P.cellsOf e ≤ k * P.cellsOf e := Nat.mul_le_mul_right _ (by omega)
          rw [Nat.add_mul] at this
          omega
        · have hM1 : M.map (·.1) = List.replicate k e := by
            simp only [M, List.map_map]
            apply List.ext_getElem?
            intro i
            simp only [List.getElem?_map, List.getElem?_replicate]
            by_cases hi : i < k
            · rw [List.getElem?_range hi, if_pos hi]; rfl
            · rw [List.getElem?_eq_none (by simpa using hi), if_neg hi]; rfl
          rw [hM1] at s1
          exact s1
    · cases hp

/-! ### The arguments of a law -/
def aggTy (P : Program) (t : TypeId) : Bool :=
  match P.underlying t with
  | some (.struct _) | some (.array _ _) => true
  | _ => false
def ShpArgs (P : Program) (g : LHeap) (n : Nat) : List TypeId → List LV → Prop
  | [], [] => True
  | t :: ts, x :: xs => (Shp P g n t x.cells ∧ (if aggTy P t then ∃ cs, x = .agg cs else x.cell = true)) ∧ ShpArgs P g n ts xs
  | _, _ => False
theorem ShpArgs.mono {g g' : LHeap} {n : Nat} (h : ∀ i o, g.get i = some o → g'.get i = some o) : ∀ {ts : List TypeId} {xs : List LV}, ShpArgs P g n ts xs → ShpArgs P g' n ts xs
  | [], [], _ => trivial
  | _ :: _, _ :: _, hs => ⟨⟨Shp.mono h _ _ _ hs.1.1, hs.1.2⟩, hs.2.mono h⟩
  | [], _ :: _, hs => hs.elim
  | _ :: _, [], hs => hs.elim

theorem import_arg {n base : Nat} {t : TypeId} {v : Value} {d : DataW H} {ps : List MemPlace} (hp : plainTy P n t = true) (hd : DataW.Trod enc P w 0 (fun _ => true) true t v d ps) (hv : Value.okWide P w .any base t v)
    (hr : Rel W keep ρ g w) (hro : ∀ i o, g.get i = some o → o.mine = false) :
    ∃ (ρ' : Ren) (g' : LHeap) (x : LV), Grown W keep w ρ g ρ' g' ∧ x.toV ρ' = v ∧ x.ok ρ' g'.next ∧ Shp P g' n t x.cells ∧ (if aggTy P t then ∃ cs, x = .agg cs else x.cell = true) := by
  obtain ⟨m, hm⟩ := hd
  obtain ⟨ρ', g', xs, G, e, o, c, s⟩ := import_cells n m t _ _ ρ g hp hm hr hro
  by_cases ha : aggTy P t = true
  · have hagg : ∃ cs, v = .agg cs := by
      unfold aggTy at ha
      unfold Value.okWide at hv
      split at ha
      · rename_i h; rw [h] at hv; obtain ⟨cs, h1, _⟩ := hv; exact ⟨cs, h1⟩
      · rename_i h; rw [h] at hv; obtain ⟨cs, h1, _⟩ := hv; exact ⟨cs, h1⟩
      · cases ha
    obtain ⟨cs, rfl⟩ := hagg
    refine ⟨ρ', g', .agg xs, G, ?_, by simpa only [LV.ok] using o, s, by rw [if_pos ha]; exact ⟨xs, rfl⟩⟩
    simp only [LV.toV, e]
    simp [Value.cells]
  · have hone : ∃ x, xs = [x] := by
      cases n with
      | zero => exact s.elim
      | succ n =>
        unfold Shp at s
        unfold aggTy at ha
        split at s
        · obtain ⟨b, rfl⟩ := s; exact ⟨_, rfl⟩
        · obtain ⟨b, rfl, _⟩ := s; exact ⟨_, rfl⟩
        · obtain ⟨b, rfl, _⟩ := s; exact ⟨_, rfl⟩
        · rcases s with rfl | ⟨a, rfl⟩ | ⟨a, len, cap, xss, rfl, _⟩ <;> exact ⟨_, rfl⟩
        · rename_i h; rw [h] at ha; exact (ha rfl).elim
        · rename_i h; rw [h] at ha; exact (ha rfl).elim
        · exact s.elim
    obtain ⟨x, rfl⟩ := hone
    have hcell := c x (by simp)
    refine ⟨ρ', g', x, G, ?_, o.1, ?_, by rw [if_neg ha]; exact hcell⟩
    · have hnot : ∀ cs, v ≠ .agg cs := by
        intro cs hcs
        subst hcs
        unfold aggTy at ha
        unfold Value.okWide at hv
        split at hv
        · rename_i h; rw [h] at ha; exact ha rfl
        · rename_i h; rw [h] at ha; exact ha rfl
        · unfold Cell.okWide at hv
          split at hv <;> first | cases ‹Value.agg cs = _› | skip
          all_goals (try (rename_i h; cases h; done))
          unfold Cell.ok at hv
          split at hv <;> simp_all
      have hvc : v.cells.toList = [v] := by
        cases v with
        | agg cs => exact absurd rfl (hnot cs)
        | _ => rfl
      rw [hvc] at e
      simpa [toVs] using e
    · have : x.cells = [x] := by
        cases x with
        | agg cs => cases hcell
        | _ => rfl
      rw [this]; exact s

theorem import_args {n base : Nat} : ∀ (ts : List TypeId) (vs : List Value) (ds : List (DataW H)) (ps : List MemPlace) (ρ : Ren) (g : LHeap), (∀ t ∈ ts, plainTy P n t = true) →
    DataW.TrodAll enc P w 0 (fun _ => true) true ts vs ds ps → (∀ (j : Nat) t v, ts[j]? = some t → vs[j]? = some v → Value.okWide P w .any base t v) → Rel W keep ρ g w → (∀ i o, g.get i = some o → o.mine = false) →
    ∃ ρ' g' xs, Grown W keep w ρ g ρ' g' ∧ toVs ρ' xs = vs ∧ oks ρ' g'.next xs ∧ ShpArgs P g' n ts xs
  | [], [], _, _, ρ, g, _, _, _, hr, hro => ⟨ρ, g, [], Grown.refl hr hro, rfl, by simp [oks], trivial⟩
  | t :: ts, v :: vs, d :: ds, ps, ρ, g, hp, hd, hv, hr, hro => by
    obtain ⟨p, q, h1, h2, _⟩ := hd
    obtain ⟨ρ1, g1, x, G1, e1, o1, s1, a1⟩ := import_arg (hp t (by simp)) h1 (hv 0 t v rfl rfl) hr hro
    obtain ⟨ρ2, g2, xs, G2, e2, o2, s2⟩ := import_args ts vs ds q ρ1 g1 (fun t ht => hp t (by simp [ht])) h2 (fun j t v ht hv' => hv (j + 1) t v (by simpa using ht) (by simpa using hv')) G1.rel G1.ro
    refine ⟨ρ2, g2, x :: xs, G1.trans G2, ?_, ⟨LV.ok_ext G2.ext G2.le x o1, o2⟩, ⟨Shp.mono G2.get _ _ _ s1, a1⟩, s2⟩
    simp only [toVs, e2, LV.toV_ext G2.ext x o1, e1]
  | [], _ :: _, _, _, _, _, _, h, _, _, _ => h.elim
  | _ :: _, [], _, _, _, _, _, h, _, _, _ => h.elim
  | _ :: _, _ :: _, [], _, _, _, _, h, _, _, _ => h.elim

/-- The call that a law's row tells of, out of its contract. -/
theorem law_calls {n base : Nat} {f : FuncId} {ts : List TypeId} {args : Array Value} {ds : List (DataW H)} {ps : List MemPlace} (hp : ts.all (plainTy P n) = true)
    (hd : DataW.TrodAll enc P W 0 (fun _ => true) true ts args.toList ds ps) (hv : ∀ (j : Nat) t v, ts[j]? = some t → args[j]? = some v → Value.okWide P W .any base t v)
    (h : ∀ g xs, (∀ i o, g.get i = some o → o.mine = false) → ShpArgs P g n ts xs → Ok P f xs g fun v _ => v = .bool true) :
    Calls P f args W fun e W' => e = .returned (.bool true) ∧ RowKit.Below W.heap.size W W' := by
  obtain ⟨ρ, g, xs, G, e, o, s⟩ := import_args (W := W) (keep := fun b => b < W.heap.size) ts args.toList ds ps ⟨fun _ => 0, fun _ => 0, fun _ => 0, fun _ => none⟩ (emp 0) (fun t ht => List.all_eq_true.1 hp t ht) hd
    (fun j t v ht hv' => hv j t v ht (by simpa using hv')) (rel_emp W _ 0) (fun i o hi => by simp [emp] at hi)
  have := (h g xs G.ro s).enter G.rel o fun v g' hv => hv
  rw [e] at this
  simpa using this

end Go.Lm
