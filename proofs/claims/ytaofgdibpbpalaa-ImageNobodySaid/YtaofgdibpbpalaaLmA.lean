/-
  The logical machine, part A: logical values, objects and heaps; how they stand to the model's own (the renaming), and the relation between a logical heap and a world.
-/
import Derived.Calls
import Derived.Below
namespace Go.Lm

/-! ### Values -/
/-- A slice's capacity: known exactly; or: up to the end of a row whose hidden end is not known (cells an element). -/
inductive Cap where
  | ex (n : Nat)
  | op (e : Nat)
  deriving DecidableEq, Inhabited

inductive LV where
  | bool (b : Bool)
  | int (k : IntKind) (n : Int)
  | str (s : List UInt8)
  | ptr (a off : Nat)
  | nilp
  | slice (a off len : Nat) (cap : Cap)
  /-- the empty end of a row that may grow: at 'off', or, where nothing is left behind it, at 'alt' -/
  | tail (a off alt e : Nat) (zero : Bool)
  | nils
  | map (a : Nat)
  | nilm
  | func (fn : Fn) (first caps : List LV)
  | nilf
  | iface (t : TypeId) (v : LV)
  | nili
  | agg (cs : List LV)
  | tuple (vs : List LV)
  deriving Inhabited

/-- Where objects lie: the block, the first cell, how many cells from there on belong to a row that may grow. -/
structure Ren where
  blk : Nat → Nat
  base : Nat → Nat
  cap : Nat → Nat
  /-- of an empty slice that was handed in: the model's mark in its address -/
  spot : Nat → Option Nat

def Ren.addr (ρ : Ren) (a off : Nat) : Addr := ⟨ρ.blk a, ρ.base a + off, none⟩
/-- where an empty slice of capacity 0 points -/
def Ren.zaddr (ρ : Ren) (a off : Nat) : Addr := (⟨ρ.blk a, ρ.base a, ρ.spot a⟩ : Addr).add off
def Ren.taddr (ρ : Ren) (z : Bool) (a off : Nat) : Addr := if z then ρ.zaddr a off else ρ.addr a off
theorem Ren.zaddr_none {ρ : Ren} {a : Nat} (h : ρ.spot a = none) (off : Nat) : ρ.zaddr a off = ρ.addr a off := by
  unfold Ren.zaddr Ren.addr Addr.add
  rw [h]
  split
  · rename_i e; subst e; rfl
  · rfl

mutual
def LV.toV (ρ : Ren) : LV → Value
  | .bool b => .bool b
  | .int k n => .int k n
  | .str s => .string ⟨s.toArray⟩
  | .ptr a off => .pointer (some (ρ.addr a off))
  | .nilp => .pointer none
  | .slice a off len (.ex n) => .slice (some (ρ.addr a off)) len n
  | .slice a off len (.op e) => .slice (some (ρ.addr a off)) len ((ρ.cap a - off) / e)
  | .tail a off alt e zero => .slice (some (ρ.taddr zero a (if (ρ.cap a - off) / e = 0 then alt else off))) 0 (if zero then 0 else (ρ.cap a - off) / e)
  | .nils => .slice none 0 0
  | .map a => .map (some (ρ.blk a))
  | .nilm => .map none
  | .func fn first caps => .func fn (toVs ρ first).toArray (toVs ρ caps).toArray
  | .nilf => .nilFunc
  | .iface t v => .iface t (v.toV ρ)
  | .nili => .nilIface
  | .agg cs => .agg (toVs ρ cs).toArray
  | .tuple vs => .tuple (toVs ρ vs).toArray
def toVs (ρ : Ren) : List LV → List Value
  | [] => []
  | v :: vs => v.toV ρ :: toVs ρ vs
end

mutual
/-- The objects that a value names are among the first n; slices keep within their capacity. -/
def LV.ok (ρ : Ren) (n : Nat) : LV → Prop
  | .ptr a _ | .map a => a < n
  | .slice a off len c => a < n ∧ (match c with | .ex k => len ≤ k | .op e => 0 < e ∧ off + len * e ≤ ρ.cap a ∧ ρ.spot a = none)
  | .tail a off _ e z => a < n ∧ 0 < e ∧ off ≤ ρ.cap a ∧ (z = false → ρ.spot a = none)
  | .func _ first caps => oks ρ n first ∧ oks ρ n caps
  | .iface _ v => v.ok ρ n
  | .agg cs => oks ρ n cs
  | .tuple vs => oks ρ n vs
  | _ => True
def oks (ρ : Ren) (n : Nat) : List LV → Prop
  | [] => True
  | v :: vs => v.ok ρ n ∧ oks ρ n vs
end

theorem toVs_eq (ρ : Ren) (l : List LV) : toVs ρ l = l.map (LV.toV ρ) := by
  induction l with
  | nil => rfl
  | cons v vs ih => simp [toVs, ih]
theorem oks_iff (ρ : Ren) (n : Nat) (l : List LV) : oks ρ n l ↔ ∀ v ∈ l, v.ok ρ n := by
  induction l with
  | nil => simp [oks]
  | cons v vs ih => simp [oks, ih]
theorem toVs_length (ρ : Ren) (l : List LV) : (toVs ρ l).length = l.length := by rw [toVs_eq]; simp
theorem toVs_append (ρ : Ren) (l m : List LV) : toVs ρ (l ++ m) = toVs ρ l ++ toVs ρ m := by simp [toVs_eq]
theorem oks_append {ρ : Ren} {n : Nat} {l m : List LV} : oks ρ n (l ++ m) ↔ oks ρ n l ∧ oks ρ n m := by
  simp only [oks_iff, List.mem_append]
  exact ⟨fun h => ⟨fun v hv => h v (.inl hv), fun v hv => h v (.inr hv)⟩, fun h v hv => hv.elim (h.1 v) (h.2 v)⟩

/-- ρ' says of the first n objects what ρ says. -/
def Ren.Ext (n : Nat) (ρ ρ' : Ren) : Prop := ∀ i, i < n → ρ'.blk i = ρ.blk i ∧ ρ'.base i = ρ.base i ∧ ρ'.cap i = ρ.cap i ∧ ρ'.spot i = ρ.spot i
theorem Ren.Ext.refl (n : Nat) (ρ : Ren) : Ren.Ext n ρ ρ := fun _ _ => ⟨rfl, rfl, rfl, rfl⟩
theorem Ren.Ext.trans {n m : Nat} {a b c : Ren} (h : Ren.Ext n a b) (k : Ren.Ext m b c) (hnm : n ≤ m) : Ren.Ext n a c := fun i hi => by
  obtain ⟨h1, h2, h3, h4⟩ := h i hi
  obtain ⟨k1, k2, k3, k4⟩ := k i (by omega)
  exact ⟨k1.trans h1, k2.trans h2, k3.trans h3, k4.trans h4⟩
theorem Ren.Ext.mono {n m : Nat} {a b : Ren} (h : Ren.Ext m a b) (hnm : n ≤ m) : Ren.Ext n a b := fun i hi => h i (by omega)

mutual
theorem LV.toV_ext {n : Nat} {ρ ρ' : Ren} (h : Ren.Ext n ρ ρ') : (v : LV) → v.ok ρ n → v.toV ρ' = v.toV ρ
  | .ptr a _, hl => by simp only [LV.toV, Ren.addr, (h a hl).1, (h a hl).2.1]
  | .slice a off len (.ex c), hl => by simp only [LV.toV, Ren.addr, (h a hl.1).1, (h a hl.1).2.1]
  | .slice a off len (.op c), hl => by simp only [LV.toV, Ren.addr, (h a hl.1).1, (h a hl.1).2.1, (h a hl.1).2.2.1]
  | .tail a off alt e z, hl => by simp only [LV.toV, Ren.taddr, Ren.zaddr, Ren.addr, (h a hl.1).1, (h a hl.1).2.1, (h a hl.1).2.2.1, (h a hl.1).2.2.2]
  | .map a, hl => by simp only [LV.toV, (h a hl).1]
  | .func _ first caps, hl => by simp only [LV.toV, toVs_ext h first hl.1, toVs_ext h caps hl.2]
  | .iface _ v, hl => by simp only [LV.toV, v.toV_ext h hl]
  | .agg cs, hl => by simp only [LV.toV, toVs_ext h cs hl]
  | .tuple vs, hl => by simp only [LV.toV, toVs_ext h vs hl]
  | .bool _, _ | .int _ _, _ | .str _, _ | .nilp, _ | .nils, _ | .nilm, _ | .nilf, _ | .nili, _ => by simp only [LV.toV]
theorem toVs_ext {n : Nat} {ρ ρ' : Ren} (h : Ren.Ext n ρ ρ') : (l : List LV) → oks ρ n l → toVs ρ' l = toVs ρ l
  | [], _ => rfl
  | v :: vs, hl => by simp only [toVs, v.toV_ext h hl.1, toVs_ext h vs hl.2]
end
mutual
theorem LV.ok_ext {n m : Nat} {ρ ρ' : Ren} (h : Ren.Ext n ρ ρ') (hnm : n ≤ m) : (v : LV) → v.ok ρ n → v.ok ρ' m
  | .ptr a _, hl => by simp only [LV.ok] at hl ⊢; omega
  | .slice a off len (.ex c), hl => by simp only [LV.ok] at hl ⊢; omega
  | .slice a off len (.op c), hl => by simp only [LV.ok] at hl ⊢; rw [(h a hl.1).2.2.1, (h a hl.1).2.2.2]; exact ⟨by omega, hl.2⟩
  | .tail a off alt e z, hl => by simp only [LV.ok] at hl ⊢; rw [(h a hl.1).2.2.1, (h a hl.1).2.2.2]; exact ⟨by omega, hl.2⟩
  | .map a, hl => by simp only [LV.ok] at hl ⊢; omega
  | .func _ first caps, hl => ⟨oks_ext h hnm first hl.1, oks_ext h hnm caps hl.2⟩
  | .iface _ v, hl => by simp only [LV.ok] at hl ⊢; exact v.ok_ext h hnm hl
  | .agg cs, hl => by simp only [LV.ok] at hl ⊢; exact oks_ext h hnm cs hl
  | .tuple vs, hl => by simp only [LV.ok] at hl ⊢; exact oks_ext h hnm vs hl
  | .bool _, _ | .int _ _, _ | .str _, _ | .nilp, _ | .nils, _ | .nilm, _ | .nilf, _ | .nili, _ => by simp only [LV.ok]
theorem oks_ext {n m : Nat} {ρ ρ' : Ren} (h : Ren.Ext n ρ ρ') (hnm : n ≤ m) : (l : List LV) → oks ρ n l → oks ρ' m l
  | [], _ => by simp [oks]
  | v :: vs, hl => ⟨v.ok_ext h hnm hl.1, oks_ext h hnm vs hl.2⟩
end

/-- One cell's value. -/
def LV.cell : LV → Bool
  | .agg _ | .tuple _ => false
  | _ => true
def LV.cells : LV → List LV
  | .agg cs => cs
  | v => [v]
theorem LV.cells_toV (ρ : Ren) (v : LV) : (v.toV ρ).cells = (toVs ρ v.cells).toArray := by
  cases v <;> first | rfl | (rename_i c; cases c <;> rfl)
theorem LV.cells_ok {ρ : Ren} {n : Nat} {v : LV} (h : v.ok ρ n) : oks ρ n v.cells := by
  cases v <;> first | exact h | exact ⟨h, trivial⟩
theorem LV.not_agg {ρ : Ren} {v : LV} (h : v.cell = true) : (∀ c, v.toV ρ ≠ .agg c) ∧ (∀ c, v.toV ρ ≠ .tuple c) := by
  cases v with
  | agg cs => simp [LV.cell] at h
  | tuple cs => simp [LV.cell] at h
  | slice a off len c => cases c <;> exact ⟨fun c hc => by simp [LV.toV] at hc, fun c hc => by simp [LV.toV] at hc⟩
  | _ => exact ⟨fun c hc => by simp [LV.toV] at hc, fun c hc => by simp [LV.toV] at hc⟩

/-- A constant of the program's text, where it names no address. -/
def ofV : Nat → Value → Option LV
  | 0, _ => none
  | _ + 1, .bool b => some (.bool b)
  | _ + 1, .int k n => some (.int k n)
  | _ + 1, .string s => some (.str s.data.toList)
  | _ + 1, .pointer none => some .nilp
  | _ + 1, .slice none 0 0 => some .nils
  | _ + 1, .map none => some .nilm
  | _ + 1, .nilFunc => some .nilf
  | _ + 1, .nilIface => some .nili
  | n + 1, .agg cs => (cs.toList.mapM (ofV n)).map .agg
  | n + 1, .tuple cs => (cs.toList.mapM (ofV n)).map .tuple
  | _, _ => none
theorem mapM_some {α β : Type} {f : α → Option β} {l : List α} {r : List β} (h : l.mapM f = some r) : l.length = r.length ∧ ∀ (i : Nat) (a : α), l[i]? = some a → ∃ b, r[i]? = some b ∧ f a = some b := by
  induction l generalizing r with
  | nil => simp at h; subst h; exact ⟨rfl, fun i a ha => by simp at ha⟩
  | cons x xs ih =>
    simp only [List.mapM_cons, Option.pure_def, Option.bind_eq_bind, Option.bind_eq_some_iff] at h
    obtain ⟨y, hy, ys, hys, hr⟩ := h
    simp only [Option.some.injEq] at hr
    subst hr
    obtain ⟨h1, h2⟩ := ih hys
    refine ⟨by simp [h1], fun i a ha => ?_⟩
    cases i with
    | zero => simp at ha; subst ha; exact ⟨y, rfl, hy⟩
    | succ i => simp at ha; exact h2 i a ha
theorem ofV_ok (ρ : Ren) (n : Nat) : ∀ (d : Nat) (v : Value) (l : LV), ofV d v = some l → l.toV ρ = v ∧ l.ok ρ n := by
  intro d
  induction d with
  | zero => intro v l h; simp [ofV] at h
  | succ d ih =>
    intro v l h
    have many : ∀ (cs : Array Value) (r : List LV), cs.toList.mapM (ofV d) = some r → (toVs ρ r).toArray = cs ∧ oks ρ n r := by
      intro cs r hr
      obtain ⟨h1, h2⟩ := mapM_some hr
      have e : toVs ρ r = cs.toList := by
        rw [toVs_eq]
        apply List.ext_getElem?
        intro i
        rw [List.getElem?_map]
        cases hi : cs.toList[i]? with
        | none =>
          have : cs.toList.length ≤ i := by simpa using hi
          rw [h1] at this
          simp [List.getElem?_eq_none this]
        | some a =>
          obtain ⟨b, hb, hf⟩ := h2 i a hi
          rw [hb, Option.map_some, (ih a b hf).1]
      refine ⟨by rw [e], (oks_iff _ _ _).2 fun v hv => ?_⟩
      obtain ⟨i, hi⟩ := List.getElem?_of_mem hv
      have hlt : i < cs.toList.length := by
        have := (List.getElem?_eq_some_iff.1 hi).1
        omega
      obtain ⟨b, hb, hf⟩ := h2 i _ (List.getElem?_eq_getElem hlt)
      rw [hi] at hb
      cases hb
      exact (ih _ _ hf).2
    cases v with
    | bool b => simp [ofV] at h; subst h; exact ⟨rfl, by simp [LV.ok]⟩
    | int k n => simp [ofV] at h; subst h; exact ⟨rfl, by simp [LV.ok]⟩
    | string s => simp [ofV] at h; subst h; exact ⟨by simp [LV.toV], by simp [LV.ok]⟩
    | pointer a => cases a <;> simp [ofV] at h; subst h; exact ⟨rfl, by simp [LV.ok]⟩
    | slice a l c =>
      cases a with
      | some a => simp [ofV] at h
      | none =>
        cases l with
        | succ l => simp [ofV] at h
        | zero => cases c <;> simp [ofV] at h; subst h; exact ⟨rfl, by simp [LV.ok]⟩
    | map a => cases a <;> simp [ofV] at h; subst h; exact ⟨rfl, by simp [LV.ok]⟩
    | nilFunc => simp [ofV] at h; subst h; exact ⟨rfl, by simp [LV.ok]⟩
    | nilIface => simp [ofV] at h; subst h; exact ⟨rfl, by simp [LV.ok]⟩
    | agg cs =>
      simp [ofV] at h
      obtain ⟨r, hr, rfl⟩ := h
      obtain ⟨h1, h2⟩ := many cs r hr
      exact ⟨by simp only [LV.toV, h1], by simpa only [LV.ok] using h2⟩
    | tuple cs =>
      simp [ofV] at h
      obtain ⟨r, hr, rfl⟩ := h
      obtain ⟨h1, h2⟩ := many cs r hr
      exact ⟨by simp only [LV.toV, h1], by simpa only [LV.ok] using h2⟩
    | _ => simp [ofV] at h

/-! ### Objects and heaps -/
/-- Whose an object is: the call's own (all its cells known; a row that may grow, its spare cells hidden), or one that is only read. -/
inductive Own where
  | ex | op | ro
  deriving DecidableEq, Inhabited

inductive LObj where
  | cells (vs : List LV) (own : Own)
  | map (es : List (LV × LV × Nat)) (clock : Nat) (own : Own)
  | strIter (s : List UInt8) (pos : Nat)
  | mapIter (m : Option Nat) (since : Nat) (seen : List Nat) (stepped : Nat)
  deriving Inhabited

def LObj.mine : LObj → Bool
  | .cells _ .ro | .map _ _ .ro => false
  | _ => true

structure LHeap where
  get : Nat → Option LObj
  next : Nat

def LHeap.set (g : LHeap) (i : Nat) (o : LObj) : LHeap := { g with get := fun j => if j = i then some o else g.get j }
def LHeap.erase (g : LHeap) (i : Nat) : LHeap := { g with get := fun j => if j = i then none else g.get j }
def LHeap.alloc (g : LHeap) (o : LObj) : LHeap := { get := fun j => if j = g.next then some o else g.get j, next := g.next + 1 }
@[simp] theorem LHeap.get_set (g : LHeap) (i j : Nat) (o : LObj) : (g.set i o).get j = if j = i then some o else g.get j := rfl
@[simp] theorem LHeap.get_erase (g : LHeap) (i j : Nat) : (g.erase i).get j = if j = i then none else g.get j := rfl
@[simp] theorem LHeap.get_alloc (g : LHeap) (j : Nat) (o : LObj) : (g.alloc o).get j = if j = g.next then some o else g.get j := rfl
@[simp] theorem LHeap.next_set (g : LHeap) (i : Nat) (o : LObj) : (g.set i o).next = g.next := id rfl
@[simp] theorem LHeap.next_erase (g : LHeap) (i : Nat) : (g.erase i).next = g.next := id rfl
@[simp] theorem LHeap.next_alloc (g : LHeap) (o : LObj) : (g.alloc o).next = g.next + 1 := id rfl

def toE (ρ : Ren) (e : LV × LV × Nat) : MapEntry := { key := e.1.toV ρ, val := e.2.1.toV ρ, born := e.2.2 }
def EOk (ρ : Ren) (n : Nat) (e : LV × LV × Nat) : Prop := e.1.ok ρ n ∧ e.2.1.ok ρ n

/-- How an object stands in the world. -/
def ObjR (ρ : Ren) (n : Nat) (w : World) (i : Nat) : LObj → Prop
  | .cells vs own => oks ρ n vs ∧ (∀ v ∈ vs, v.cell = true) ∧ ∃ C ty fz, w.heap[ρ.blk i]? = some (.cells C ty fz) ∧ ρ.base i + vs.length ≤ C.size ∧
      (∀ j v, vs[j]? = some v → C[ρ.base i + j]? = some (v.toV ρ)) ∧
      (own ≠ .ro → ∀ o, o < C.size → ¬ (fz.1 ≤ o ∧ o < fz.2)) ∧
      (own = .op → C.size = ρ.base i + ρ.cap i)
  | .map es clock _ => (∀ e ∈ es, EOk ρ n e) ∧ w.heap[ρ.blk i]? = some (.map (es.map (toE ρ)).toArray clock)
  | .strIter s pos => ρ.base i = 0 ∧ w.heap[ρ.blk i]? = some (.stringIter ⟨s.toArray⟩ pos)
  | .mapIter m since seen stepped => ρ.base i = 0 ∧ (∀ b, m = some b → b < n) ∧ w.heap[ρ.blk i]? = some (.mapIter (m.map ρ.blk) since seen.toArray stepped)

/-- The logical heap g, laid out by ρ, is what w holds; blocks that are protected ('keep') are as they were in W. -/
structure Rel (W : World) (keep : Nat → Prop) (ρ : Ren) (g : LHeap) (w : World) : Prop where
  os : w.os = W.os
  tape : w.tape = W.tape
  output : w.output = W.output
  size : W.heap.size ≤ w.heap.size
  kept : ∀ b, keep b → b < W.heap.size ∧ w.heap[b]? = W.heap[b]?
  obj : ∀ i o, g.get i = some o → i < g.next ∧ ObjR ρ g.next w i o
  inj : ∀ i j o p, g.get i = some o → g.get j = some p → i ≠ j → (o.mine = true ∨ p.mine = true) → ρ.blk i ≠ ρ.blk j
  mine : ∀ i o, g.get i = some o → o.mine = true → ¬ keep (ρ.blk i)

theorem LHeap.ext {g h : LHeap} (h1 : ∀ i, g.get i = h.get i) (h2 : g.next = h.next) : g = h := by
  cases g; cases h; simp only [LHeap.mk.injEq] at *; exact ⟨funext h1, h2⟩

theorem ObjR.heap {ρ : Ren} {n : Nat} {w w' : World} {i : Nat} {o : LObj} (h : ObjR ρ n w i o) (hw : w'.heap[ρ.blk i]? = w.heap[ρ.blk i]?) : ObjR ρ n w' i o := by
  cases o <;> simp only [ObjR] at h ⊢ <;> rw [hw] <;> exact h
theorem ObjR.some {ρ : Ren} {n : Nat} {w : World} {i : Nat} {o : LObj} (h : ObjR ρ n w i o) : ∃ x, w.heap[ρ.blk i]? = some x := by
  cases o <;> simp only [ObjR] at h
  · obtain ⟨_, _, C, ty, fz, h, _⟩ := h; exact ⟨_, h⟩
  · exact ⟨_, h.2⟩
  · exact ⟨_, h.2⟩
  · exact ⟨_, h.2.2⟩
theorem ObjR.lt {ρ : Ren} {n : Nat} {w : World} {i : Nat} {o : LObj} (h : ObjR ρ n w i o) : ρ.blk i < w.heap.size := by
  obtain ⟨x, hx⟩ := h.some
  exact (Array.getElem?_eq_some_iff.1 hx).1
theorem toE_ext {n : Nat} {ρ ρ' : Ren} (h : Ren.Ext n ρ ρ') {e : LV × LV × Nat} (he : EOk ρ n e) : toE ρ' e = toE ρ e := by
  simp only [toE, LV.toV_ext h _ he.1, LV.toV_ext h _ he.2]
theorem ObjR.ext {ρ ρ' : Ren} {n m : Nat} {w : World} {i : Nat} {o : LObj} (hi : i < n) (hx : Ren.Ext n ρ ρ') (hnm : n ≤ m) (h : ObjR ρ n w i o) : ObjR ρ' m w i o := by
  obtain ⟨x1, x2, x3, _⟩ := hx i hi
  cases o with
  | cells vs own =>
    obtain ⟨h1, h2, C, ty, fz, h3, hs, h4, h5⟩ := h
    refine ⟨oks_ext hx hnm vs h1, h2, C, ty, fz, by rw [x1]; exact h3, by rw [x2]; exact hs, fun j v hj => ?_, by rw [x2, x3]; exact h5⟩
    rw [x2, LV.toV_ext hx v ((oks_iff _ _ _).1 h1 v (List.mem_of_getElem? hj))]
    exact h4 j v hj
  | map es clock own =>
    obtain ⟨h1, h2⟩ := h
    refine ⟨fun e he => ⟨LV.ok_ext hx hnm _ (h1 e he).1, LV.ok_ext hx hnm _ (h1 e he).2⟩, ?_⟩
    rw [x1, h2, List.map_congr_left fun e he => toE_ext hx (h1 e he)]
  | strIter s pos => obtain ⟨h1, h2⟩ := h; exact ⟨by rw [x2]; exact h1, by rw [x1]; exact h2⟩
  | mapIter m since seen stepped =>
    obtain ⟨h1, h2, h3⟩ := h
    refine ⟨by rw [x2]; exact h1, fun b hb => by have := h2 b hb; omega, ?_⟩
    rw [x1, h3]
    cases m with
    | none => rfl
    | some b => simp only [Option.map_some, (hx b (h2 b rfl)).1]

/-- The renaming that lays a new object. -/
def Ren.put (ρ : Ren) (i blk base cap : Nat) : Ren :=
  { blk := fun j => if j = i then blk else ρ.blk j, base := fun j => if j = i then base else ρ.base j, cap := fun j => if j = i then cap else ρ.cap j, spot := fun j => if j = i then none else ρ.spot j }
theorem Ren.put_ext (ρ : Ren) (i blk base cap : Nat) : Ren.Ext i ρ (ρ.put i blk base cap) := fun j hj => by
  simp [Ren.put, Nat.ne_of_lt hj]
@[simp] theorem Ren.put_blk (ρ : Ren) (i blk base cap : Nat) : (ρ.put i blk base cap).blk i = blk := by simp [Ren.put]
@[simp] theorem Ren.put_base (ρ : Ren) (i blk base cap : Nat) : (ρ.put i blk base cap).base i = base := by simp [Ren.put]
@[simp] theorem Ren.put_spot (ρ : Ren) (i blk base cap : Nat) : (ρ.put i blk base cap).spot i = none := by simp [Ren.put]
@[simp] theorem Ren.put_cap (ρ : Ren) (i blk base cap : Nat) : (ρ.put i blk base cap).cap i = cap := by simp [Ren.put]

end Go.Lm
