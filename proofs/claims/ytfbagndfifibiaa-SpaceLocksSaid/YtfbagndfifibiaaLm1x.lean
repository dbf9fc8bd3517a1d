/-
  The logical machine: a deep reading of a program over numbered objects, proved sound once; parts mA to mI.
-/
import Derived.Calls
import Derived.Below
import GoSem.Dispatch
import Derived.RangeFuncRecord
import Derived.Laws.Strings
import Derived.ChangeKeysEq
set_option linter.all false
/-
  The logical machine, part A: logical values, objects and heaps; how they stand to the model's own (the renaming), and the relation between a logical heap and a world.
-/
namespace Go.Lm

/-! ### Values -/
/-- A slice's capacity: known exactly; or: up to the end of a row whose hidden end is not known (cells an element). -/
inductive Cap where
  | ex (n : Nat)
  | op (e : Nat)
  deriving DecidableEq, Inhabited

inductive LV where
  | bool (b : Bool)
  | int (k : IntKind) (n : Int)
  | str (s : List UInt8)
  | ptr (a off : Nat)
  | nilp
  | slice (a off len : Nat) (cap : Cap)
  /-- the empty end of a row that may grow: at 'off', or, where nothing is left behind it, at 'alt' -/
  | tail (a off alt e : Nat) (zero : Bool)
  | nils
  | map (a : Nat)
  | nilm
  | func (fn : Fn) (first caps : List LV)
  | nilf
  | iface (t : TypeId) (v : LV)
  | nili
  | agg (cs : List LV)
  | tuple (vs : List LV)
  /-- what a range over a function hands over: a call of it is a round of the loop whose record is a -/
  | yield (a : Nat)
  deriving Inhabited

/-- Where objects lie: the block, the first cell, how many cells from there on belong to a row that may grow. -/
structure Ren where
  blk : Nat → Nat
  base : Nat → Nat
  cap : Nat → Nat
  /-- of an empty slice that was handed in: the model's mark in its address -/
  spot : Nat → Option Nat

def Ren.addr (ρ : Ren) (a off : Nat) : Addr := ⟨ρ.blk a, ρ.base a + off, none⟩
/-- where an empty slice of capacity 0 points -/
def Ren.zaddr (ρ : Ren) (a off : Nat) : Addr := (⟨ρ.blk a, ρ.base a, ρ.spot a⟩ : Addr).add off
def Ren.taddr (ρ : Ren) (z : Bool) (a off : Nat) : Addr := if z then ρ.zaddr a off else ρ.addr a off
theorem Ren.zaddr_none {ρ : Ren} {a : Nat} (h : ρ.spot a = none) (off : Nat) : ρ.zaddr a off = ρ.addr a off := by
  unfold Ren.zaddr Ren.addr Addr.add
  rw [h]
  split
  · rename_i e; subst e; rfl
  · rfl

mutual
def LV.toV (ρ : Ren) : LV → Value
  | .bool b => .bool b
  | .int k n => .int k n
  | .str s => .string ⟨s.toArray⟩
  | .ptr a off => .pointer (some (ρ.addr a off))
  | .nilp => .pointer none
  | .slice a off len (.ex n) => .slice (some (ρ.addr a off)) len n
  | .slice a off len (.op e) => .slice (some (ρ.addr a off)) len ((ρ.cap a - off) / e)
  | .tail a off alt e zero => .slice (some (ρ.taddr zero a (if (ρ.cap a - off) / e = 0 then alt else off))) 0 (if zero then 0 else (ρ.cap a - off) / e)
  | .nils => .slice none 0 0
  | .map a => .map (some (ρ.blk a))
  | .nilm => .map none
  | .func fn first caps => .func fn (toVs ρ first).toArray (toVs ρ caps).toArray
  | .nilf => .nilFunc
  | .iface t v => .iface t (v.toV ρ)
  | .nili => .nilIface
  | .agg cs => .agg (toVs ρ cs).toArray
  | .tuple vs => .tuple (toVs ρ vs).toArray
  | .yield a => .func (.yield (ρ.blk a)) #[] #[]
def toVs (ρ : Ren) : List LV → List Value
  | [] => []
  | v :: vs => v.toV ρ :: toVs ρ vs
end

mutual
/-- The objects that a value names are among the first n; slices keep within their capacity. -/
def LV.ok (ρ : Ren) (n : Nat) : LV → Prop
  | .ptr a _ | .map a | .yield a => a < n
  | .slice a off len c => a < n ∧ (match c with | .ex k => len ≤ k | .op e => 0 < e ∧ off + len * e ≤ ρ.cap a ∧ ρ.spot a = none)
  | .tail a off _ e z => a < n ∧ 0 < e ∧ off ≤ ρ.cap a ∧ (z = false → ρ.spot a = none)
  | .func _ first caps => oks ρ n first ∧ oks ρ n caps
  | .iface _ v => v.ok ρ n
  | .agg cs => oks ρ n cs
  | .tuple vs => oks ρ n vs
  | _ => True
def oks (ρ : Ren) (n : Nat) : List LV → Prop
  | [] => True
  | v :: vs => v.ok ρ n ∧ oks ρ n vs
end

theorem toVs_eq (ρ : Ren) (l : List LV) : toVs ρ l = l.map (LV.toV ρ) := by
  induction l with
  | nil => rfl
  | cons v vs ih => simp [toVs, ih]
theorem oks_iff (ρ : Ren) (n : Nat) (l : List LV) : oks ρ n l ↔ ∀ v ∈ l, v.ok ρ n := by
  induction l with
  | nil => simp [oks]
  | cons v vs ih => simp [oks, ih]
theorem toVs_length (ρ : Ren) (l : List LV) : (toVs ρ l).length = l.length := by rw [toVs_eq]; simp
theorem toVs_append (ρ : Ren) (l m : List LV) : toVs ρ (l ++ m) = toVs ρ l ++ toVs ρ m := by simp [toVs_eq]
theorem oks_append {ρ : Ren} {n : Nat} {l m : List LV} : oks ρ n (l ++ m) ↔ oks ρ n l ∧ oks ρ n m := by
  simp only [oks_iff, List.mem_append]
  exact ⟨fun h => ⟨fun v hv => h v (.inl hv), fun v hv => h v (.inr hv)⟩, fun h v hv => hv.elim (h.1 v) (h.2 v)⟩

/-- ρ' says of the first n objects what ρ says. -/
def Ren.Ext (n : Nat) (ρ ρ' : Ren) : Prop := ∀ i, i < n → ρ'.blk i = ρ.blk i ∧ ρ'.base i = ρ.base i ∧ ρ'.cap i = ρ.cap i ∧ ρ'.spot i = ρ.spot i
theorem Ren.Ext.refl (n : Nat) (ρ : Ren) : Ren.Ext n ρ ρ := fun _ _ => ⟨rfl, rfl, rfl, rfl⟩
theorem Ren.Ext.trans {n m : Nat} {a b c : Ren} (h : Ren.Ext n a b) (k : Ren.Ext m b c) (hnm : n ≤ m) : Ren.Ext n a c := fun i hi => by
  obtain ⟨h1, h2, h3, h4⟩ := h i hi
  obtain ⟨k1, k2, k3, k4⟩ := k i (by omega)
  exact ⟨k1.trans h1, k2.trans h2, k3.trans h3, k4.trans h4⟩
theorem Ren.Ext.mono {n m : Nat} {a b : Ren} (h : Ren.Ext m a b) (hnm : n ≤ m) : Ren.Ext n a b := fun i hi => h i (by omega)

mutual
theorem LV.toV_ext {n : Nat} {ρ ρ' : Ren} (h : Ren.Ext n ρ ρ') : (v : LV) → v.ok ρ n → v.toV ρ' = v.toV ρ
  | .ptr a _, hl => by simp only [LV.toV, Ren.addr, (h a hl).1, (h a hl).2.1]
  | .slice a off len (.ex c), hl => by simp only [LV.toV, Ren.addr, (h a hl.1).1, (h a hl.1).2.1]
  | .slice a off len (.op c), hl => by simp only [LV.toV, Ren.addr, (h a hl.1).1, (h a hl.1).2.1, (h a hl.1).2.2.1]
  | .tail a off alt e z, hl => by simp only [LV.toV, Ren.taddr, Ren.zaddr, Ren.addr, (h a hl.1).1, (h a hl.1).2.1, (h a hl.1).2.2.1, (h a hl.1).2.2.2]
  | .map a, hl => by simp only [LV.toV, (h a hl).1]
  | .yield a, hl => by simp only [LV.toV, (h a hl).1]
  | .func _ first caps, hl => by simp only [LV.toV, toVs_ext h first hl.1, toVs_ext h caps hl.2]
  | .iface _ v, hl => by simp only [LV.toV, v.toV_ext h hl]
  | .agg cs, hl => by simp only [LV.toV, toVs_ext h cs hl]
  | .tuple vs, hl => by simp only [LV.toV, toVs_ext h vs hl]
  | .bool _, _ | .int _ _, _ | .str _, _ | .nilp, _ | .nils, _ | .nilm, _ | .nilf, _ | .nili, _ => by simp only [LV.toV]
theorem toVs_ext {n : Nat} {ρ ρ' : Ren} (h : Ren.Ext n ρ ρ') : (l : List LV) → oks ρ n l → toVs ρ' l = toVs ρ l
  | [], _ => rfl
  | v :: vs, hl => by simp only [toVs, v.toV_ext h hl.1, toVs_ext h vs hl.2]
end
mutual
theorem LV.ok_ext {n m : Nat} {ρ ρ' : Ren} (h : Ren.Ext n ρ ρ') (hnm : n ≤ m) : (v : LV) → v.ok ρ n → v.ok ρ' m
  | .ptr a _, hl => by simp only [LV.ok] at hl ⊢; omega
  | .slice a off len (.ex c), hl => by simp only [LV.ok] at hl ⊢; omega
  | .slice a off len (.op c), hl => by simp only [LV.ok] at hl ⊢; rw [(h a hl.1).2.2.1, (h a hl.1).2.2.2]; exact ⟨by omega, hl.2⟩
  | .tail a off alt e z, hl => by simp only [LV.ok] at hl ⊢; rw [(h a hl.1).2.2.1, (h a hl.1).2.2.2]; exact ⟨by omega, hl.2⟩
  | .map a, hl => by simp only [LV.ok] at hl ⊢; omega
  | .yield a, hl => by simp only [LV.ok] at hl ⊢; omega
  | .func _ first caps, hl => ⟨oks_ext h hnm first hl.1, oks_ext h hnm caps hl.2⟩
  | .iface _ v, hl => by simp only [LV.ok] at hl ⊢; exact v.ok_ext h hnm hl
  | .agg cs, hl => by simp only [LV.ok] at hl ⊢; exact oks_ext h hnm cs hl
  | .tuple vs, hl => by simp only [LV.ok] at hl ⊢; exact oks_ext h hnm vs hl
  | .bool _, _ | .int _ _, _ | .str _, _ | .nilp, _ | .nils, _ | .nilm, _ | .nilf, _ | .nili, _ => by simp only [LV.ok]
theorem oks_ext {n m : Nat} {ρ ρ' : Ren} (h : Ren.Ext n ρ ρ') (hnm : n ≤ m) : (l : List LV) → oks ρ n l → oks ρ' m l
  | [], _ => by simp [oks]
  | v :: vs, hl => ⟨v.ok_ext h hnm hl.1, oks_ext h hnm vs hl.2⟩
end

/-- One cell's value. -/
def LV.cell : LV → Bool
  | .agg _ | .tuple _ => false
  | _ => true
def LV.cells : LV → List LV
  | .agg cs => cs
  | v => [v]
theorem LV.cells_toV (ρ : Ren) (v : LV) : (v.toV ρ).cells = (toVs ρ v.cells).toArray := by
  cases v <;> first | rfl | (rename_i c; cases c <;> rfl)
theorem LV.cells_ok {ρ : Ren} {n : Nat} {v : LV} (h : v.ok ρ n) : oks ρ n v.cells := by
  cases v <;> first | exact h | exact ⟨h, trivial⟩
theorem LV.not_agg {ρ : Ren} {v : LV} (h : v.cell = true) : (∀ c, v.toV ρ ≠ .agg c) ∧ (∀ c, v.toV ρ ≠ .tuple c) := by
  cases v with
  | agg cs => simp [LV.cell] at h
  | tuple cs => simp [LV.cell] at h
  | slice a off len c => cases c <;> exact ⟨fun c hc => by simp [LV.toV] at hc, fun c hc => by simp [LV.toV] at hc⟩
  | _ => exact ⟨fun c hc => by simp [LV.toV] at hc, fun c hc => by simp [LV.toV] at hc⟩

/-- A constant of the program's text, where it names no address. -/
def ofV : Nat → Value → Option LV
  | 0, _ => none
  | _ + 1, .bool b => some (.bool b)
  | _ + 1, .int k n => some (.int k n)
  | _ + 1, .string s => some (.str s.data.toList)
  | _ + 1, .pointer none => some .nilp
  | _ + 1, .slice none 0 0 => some .nils
  | _ + 1, .map none => some .nilm
  | _ + 1, .nilFunc => some .nilf
  | _ + 1, .nilIface => some .nili
  | n + 1, .agg cs => (cs.toList.mapM (ofV n)).map .agg
  | n + 1, .tuple cs => (cs.toList.mapM (ofV n)).map .tuple
  | _, _ => none
theorem mapM_some {α β : Type} {f : α → Option β} {l : List α} {r : List β} (h : l.mapM f = some r) : l.length = r.length ∧ ∀ (i : Nat) (a : α), l[i]? = some a → ∃ b, r[i]? = some b ∧ f a = some b := by
  induction l generalizing r with
  | nil => simp at h; subst h; exact ⟨rfl, fun i a ha => by simp at ha⟩
  | cons x xs ih =>
    simp only [List.mapM_cons, Option.pure_def, Option.bind_eq_bind, Option.bind_eq_some_iff] at h
    obtain ⟨y, hy, ys, hys, hr⟩ := h
    simp only [Option.some.injEq] at hr
    subst hr
    obtain ⟨h1, h2⟩ := ih hys
    refine ⟨by simp [h1], fun i a ha => ?_⟩
    cases i with
    | zero => simp at ha; subst ha; exact ⟨y, rfl, hy⟩
    | succ i => simp at ha; exact h2 i a ha
theorem ofV_ok (ρ : Ren) (n : Nat) : ∀ (d : Nat) (v : Value) (l : LV), ofV d v = some l → l.toV ρ = v ∧ l.ok ρ n := by
  intro d
  induction d with
  | zero => intro v l h; simp [ofV] at h
  | succ d ih =>
    intro v l h
    have many : ∀ (cs : Array Value) (r : List LV), cs.toList.mapM (ofV d) = some r → (toVs ρ r).toArray = cs ∧ oks ρ n r := by
      intro cs r hr
      obtain ⟨h1, h2⟩ := mapM_some hr
      have e : toVs ρ r = cs.toList := by
        rw [toVs_eq]
        apply List.ext_getElem?
        intro i
        rw [List.getElem?_map]
        cases hi : cs.toList[i]? with
        | none =>
          have : cs.toList.length ≤ i := by simpa using hi
          rw [h1] at this
          simp [List.getElem?_eq_none this]
        | some a =>
          obtain ⟨b, hb, hf⟩ := h2 i a hi
          rw [hb, Option.map_some, (ih a b hf).1]
      refine ⟨by rw [e], (oks_iff _ _ _).2 fun v hv => ?_⟩
      obtain ⟨i, hi⟩ := List.getElem?_of_mem hv
      have hlt : i < cs.toList.length := by
        have := (List.getElem?_eq_some_iff.1 hi).1
        omega
      obtain ⟨b, hb, hf⟩ := h2 i _ (List.getElem?_eq_getElem hlt)
      rw [hi] at hb
      cases hb
      exact (ih _ _ hf).2
    cases v with
    | bool b => simp [ofV] at h; subst h; exact ⟨rfl, by simp [LV.ok]⟩
    | int k n => simp [ofV] at h; subst h; exact ⟨rfl, by simp [LV.ok]⟩
    | string s => simp [ofV] at h; subst h; exact ⟨by simp [LV.toV], by simp [LV.ok]⟩
    | pointer a => cases a <;> simp [ofV] at h; subst h; exact ⟨rfl, by simp [LV.ok]⟩
    | slice a l c =>
      cases a with
      | some a => simp [ofV] at h
      | none =>
        cases l with
        | succ l => simp [ofV] at h
        | zero => cases c <;> simp [ofV] at h; subst h; exact ⟨rfl, by simp [LV.ok]⟩
    | map a => cases a <;> simp [ofV] at h; subst h; exact ⟨rfl, by simp [LV.ok]⟩
    | nilFunc => simp [ofV] at h; subst h; exact ⟨rfl, by simp [LV.ok]⟩
    | nilIface => simp [ofV] at h; subst h; exact ⟨rfl, by simp [LV.ok]⟩
    | agg cs =>
      simp [ofV] at h
      obtain ⟨r, hr, rfl⟩ := h
      obtain ⟨h1, h2⟩ := many cs r hr
      exact ⟨by simp only [LV.toV, h1], by simpa only [LV.ok] using h2⟩
    | tuple cs =>
      simp [ofV] at h
      obtain ⟨r, hr, rfl⟩ := h
      obtain ⟨h1, h2⟩ := many cs r hr
      exact ⟨by simp only [LV.toV, h1], by simpa only [LV.ok] using h2⟩
    | _ => simp [ofV] at h

/-! ### What code the logical machine knows -/
def fineO : Operand → Bool
  | .const v => (ofV 6 v).isSome
  | .global _ => false
  | _ => true
/-- Operands whose values are known to the logical machine. -/
def fineOp (o : Oper) : Bool := o.op.operands.all fineO
def dstOK (N : Nat) (o : Oper) : Bool := match o.dst with | some d => Nat.blt d N | none => true
def isSelect : Op → Bool
  | .select _ _ => true
  | .defer _ => true
  | _ => false
def fineOps (N : Nat) (ops : Array Oper) : Bool := ops.toList.all fun o => fineOp o && dstOK N o && !isSelect o.op
/-- Code without a range over a function. -/
def flatC : Code → Bool
  | .seq a b => flatC a && flatC b
  | .cond _ a b => flatC a && flatC b
  | .block _ b => flatC b
  | .loop b => flatC b
  | .scope b => flatC b
  | .rangeFunc .. => false
  | _ => true
/-- Code in which each constant and slot is known to the logical machine. -/
def fineC (N : Nat) : Code → Bool
  | .region _ ops _ => fineOps N ops
  | .seq a b => fineC N a && fineC N b
  | .cond c a b => fineO c && fineC N a && fineC N b
  | .block _ b => fineC N b
  | .loop b => fineC N b
  | .scope b => fineC N b
  | .rangeFunc f ps a b => fineO f && (ps.toList.all fun p => Nat.blt p N) && fineC N a && fineC N b && flatC a && flatC b
  | _ => true
def fineL (N : Nat) (ps : Array Tmp) (a b : Code) : Bool := (ps.toList.all fun p => Nat.blt p N) && fineC N a && fineC N b && flatC a && flatC b

/-! ### Objects and heaps -/
/-- Whose an object is: the call's own (all its cells known; a row that may grow, its spare cells hidden), or one that is only read. -/
inductive Own where
  | ex | op | ro
  deriving DecidableEq, Inhabited

/-- The record of a range over a function. -/
structure LLoop where
  state : LoopState
  pending : Option Code
  tm : Nat → LV
  params : Array Tmp
  assign : Code
  body : Code
  deriving Inhabited
inductive LObj where
  | cells (vs : List LV) (own : Own)
  | map (es : List (LV × LV × Nat)) (clock : Nat) (own : Own)
  | strIter (s : List UInt8) (pos : Nat)
  | mapIter (m : Option Nat) (since : Nat) (seen : List Nat) (stepped : Nat)
  | loop (r : LLoop)
  deriving Inhabited

def LObj.mine : LObj → Bool
  | .cells _ .ro | .map _ _ .ro => false
  | _ => true

structure LHeap where
  get : Nat → Option LObj
  next : Nat

def LHeap.set (g : LHeap) (i : Nat) (o : LObj) : LHeap := { g with get := fun j => if j = i then some o else g.get j }
def LHeap.erase (g : LHeap) (i : Nat) : LHeap := { g with get := fun j => if j = i then none else g.get j }
def LHeap.alloc (g : LHeap) (o : LObj) : LHeap := { get := fun j => if j = g.next then some o else g.get j, next := g.next + 1 }
@[simp] theorem LHeap.get_set (g : LHeap) (i j : Nat) (o : LObj) : (g.set i o).get j = if j = i then some o else g.get j := rfl
@[simp] theorem LHeap.get_erase (g : LHeap) (i j : Nat) : (g.erase i).get j = if j = i then none else g.get j := rfl
@[simp] theorem LHeap.get_alloc (g : LHeap) (j : Nat) (o : LObj) : (g.alloc o).get j = if j = g.next then some o else g.get j := rfl
@[simp] theorem LHeap.next_set (g : LHeap) (i : Nat) (o : LObj) : (g.set i o).next = g.next := id rfl
@[simp] theorem LHeap.next_erase (g : LHeap) (i : Nat) : (g.erase i).next = g.next := id rfl
@[simp] theorem LHeap.next_alloc (g : LHeap) (o : LObj) : (g.alloc o).next = g.next + 1 := id rfl

def toE (ρ : Ren) (e : LV × LV × Nat) : MapEntry := { key := e.1.toV ρ, val := e.2.1.toV ρ, born := e.2.2 }
def EOk (ρ : Ren) (n : Nat) (e : LV × LV × Nat) : Prop := e.1.ok ρ n ∧ e.2.1.ok ρ n

/-- How an object stands in the world. -/
def ObjR (ρ : Ren) (n : Nat) (w : World) (i : Nat) : LObj → Prop
  | .cells vs own => oks ρ n vs ∧ (∀ v ∈ vs, v.cell = true) ∧ ∃ C ty fz, w.heap[ρ.blk i]? = some (.cells C ty fz) ∧ ρ.base i + vs.length ≤ C.size ∧
      (∀ j v, vs[j]? = some v → C[ρ.base i + j]? = some (v.toV ρ)) ∧
      (own ≠ .ro → ∀ o, o < C.size → ¬ (fz.1 ≤ o ∧ o < fz.2)) ∧
      (own = .op → C.size = ρ.base i + ρ.cap i)
  | .map es clock _ => (∀ e ∈ es, EOk ρ n e) ∧ w.heap[ρ.blk i]? = some (.map (es.map (toE ρ)).toArray clock)
  | .strIter s pos => ρ.base i = 0 ∧ w.heap[ρ.blk i]? = some (.stringIter ⟨s.toArray⟩ pos)
  | .mapIter m since seen stepped => ρ.base i = 0 ∧ (∀ b, m = some b → b < n) ∧ w.heap[ρ.blk i]? = some (.mapIter (m.map ρ.blk) since seen.toArray stepped)
  | .loop r => ρ.base i = 0 ∧ (∀ t, (r.tm t).ok ρ n) ∧ ∃ fn d tmps, fineL tmps.size r.params r.assign r.body = true ∧ (∀ t, tmps.getD t undef = (r.tm t).toV ρ) ∧
      w.heap[ρ.blk i]? = some (.loop { state := r.state, pending := r.pending, fn := fn, tmps := tmps, params := r.params, assign := r.assign, body := r.body, defers := d })

/-- The logical heap g, laid out by ρ, is what w holds; blocks that are protected ('keep') are as they were in W. -/
structure Rel (W : World) (keep : Nat → Prop) (ρ : Ren) (g : LHeap) (w : World) : Prop where
  os : w.os = W.os
  tape : w.tape = W.tape
  output : w.output = W.output
  size : W.heap.size ≤ w.heap.size
  kept : ∀ b, keep b → b < W.heap.size ∧ w.heap[b]? = W.heap[b]?
  obj : ∀ i o, g.get i = some o → i < g.next ∧ ObjR ρ g.next w i o
  inj : ∀ i j o p, g.get i = some o → g.get j = some p → i ≠ j → (o.mine = true ∨ p.mine = true) → ρ.blk i ≠ ρ.blk j
  mine : ∀ i o, g.get i = some o → o.mine = true → ¬ keep (ρ.blk i)

theorem LHeap.ext {g h : LHeap} (h1 : ∀ i, g.get i = h.get i) (h2 : g.next = h.next) : g = h := by
  cases g; cases h; simp only [LHeap.mk.injEq] at *; exact ⟨funext h1, h2⟩

theorem ObjR.heap {ρ : Ren} {n : Nat} {w w' : World} {i : Nat} {o : LObj} (h : ObjR ρ n w i o) (hw : w'.heap[ρ.blk i]? = w.heap[ρ.blk i]?) : ObjR ρ n w' i o := by
  cases o <;> simp only [ObjR] at h ⊢ <;> rw [hw] <;> exact h
theorem ObjR.some {ρ : Ren} {n : Nat} {w : World} {i : Nat} {o : LObj} (h : ObjR ρ n w i o) : ∃ x, w.heap[ρ.blk i]? = some x := by
  cases o <;> simp only [ObjR] at h
  · obtain ⟨_, _, C, ty, fz, h, _⟩ := h; exact ⟨_, h⟩
  · exact ⟨_, h.2⟩
  · exact ⟨_, h.2⟩
  · exact ⟨_, h.2.2⟩
  · obtain ⟨_, _, _, _, _, _, _, h⟩ := h; exact ⟨_, h⟩
theorem ObjR.lt {ρ : Ren} {n : Nat} {w : World} {i : Nat} {o : LObj} (h : ObjR ρ n w i o) : ρ.blk i < w.heap.size := by
  obtain ⟨x, hx⟩ := h.some
  exact (Array.getElem?_eq_some_iff.1 hx).1
theorem toE_ext {n : Nat} {ρ ρ' : Ren} (h : Ren.Ext n ρ ρ') {e : LV × LV × Nat} (he : EOk ρ n e) : toE ρ' e = toE ρ e := by
  simp only [toE, LV.toV_ext h _ he.1, LV.toV_ext h _ he.2]
theorem ObjR.ext {ρ ρ' : Ren} {n m : Nat} {w : World} {i : Nat} {o : LObj} (hi : i < n) (hx : Ren.Ext n ρ ρ') (hnm : n ≤ m) (h : ObjR ρ n w i o) : ObjR ρ' m w i o := by
  obtain ⟨x1, x2, x3, _⟩ := hx i hi
  cases o with
  | cells vs own =>
    obtain ⟨h1, h2, C, ty, fz, h3, hs, h4, h5⟩ := h
    refine ⟨oks_ext hx hnm vs h1, h2, C, ty, fz, by rw [x1]; exact h3, by rw [x2]; exact hs, fun j v hj => ?_, by rw [x2, x3]; exact h5⟩
    rw [x2, LV.toV_ext hx v ((oks_iff _ _ _).1 h1 v (List.mem_of_getElem? hj))]
    exact h4 j v hj
  | map es clock own =>
    obtain ⟨h1, h2⟩ := h
    refine ⟨fun e he => ⟨LV.ok_ext hx hnm _ (h1 e he).1, LV.ok_ext hx hnm _ (h1 e he).2⟩, ?_⟩
    rw [x1, h2, List.map_congr_left fun e he => toE_ext hx (h1 e he)]
  | strIter s pos => obtain ⟨h1, h2⟩ := h; exact ⟨by rw [x2]; exact h1, by rw [x1]; exact h2⟩
  | mapIter m since seen stepped =>
    obtain ⟨h1, h2, h3⟩ := h
    refine ⟨by rw [x2]; exact h1, fun b hb => by have := h2 b hb; omega, ?_⟩
    rw [x1, h3]
    cases m with
    | none => rfl
    | some b => simp only [Option.map_some, (hx b (h2 b rfl)).1]
  | loop r =>
    obtain ⟨h0, h1, fn, d, tmps, h2, h3, h4⟩ := h
    exact ⟨by rw [x2]; exact h0, fun t => LV.ok_ext hx hnm _ (h1 t), fn, d, tmps, h2, fun t => by rw [LV.toV_ext hx _ (h1 t)]; exact h3 t, by rw [x1]; exact h4⟩

/-- The renaming that lays a new object. -/
def Ren.put (ρ : Ren) (i blk base cap : Nat) : Ren :=
  { blk := fun j => if j = i then blk else ρ.blk j, base := fun j => if j = i then base else ρ.base j, cap := fun j => if j = i then cap else ρ.cap j, spot := fun j => if j = i then none else ρ.spot j }
theorem Ren.put_ext (ρ : Ren) (i blk base cap : Nat) : Ren.Ext i ρ (ρ.put i blk base cap) := fun j hj => by
  simp [Ren.put, Nat.ne_of_lt hj]
@[simp] theorem Ren.put_blk (ρ : Ren) (i blk base cap : Nat) : (ρ.put i blk base cap).blk i = blk := by simp [Ren.put]
@[simp] theorem Ren.put_base (ρ : Ren) (i blk base cap : Nat) : (ρ.put i blk base cap).base i = base := by simp [Ren.put]
@[simp] theorem Ren.put_spot (ρ : Ren) (i blk base cap : Nat) : (ρ.put i blk base cap).spot i = none := by simp [Ren.put]
@[simp] theorem Ren.put_cap (ρ : Ren) (i blk base cap : Nat) : (ρ.put i blk base cap).cap i = cap := by simp [Ren.put]

/-- A heap and a value that come behind g: laid out, and nothing of what was named before has moved. -/
structure Post (W : World) (keep : Nat → Prop) (ρ : Ren) (g : LHeap) (v : LV) (g' : LHeap) (ρ' : Ren) (w' : World) : Prop where
  ext : Ren.Ext g.next ρ ρ'
  rel : Rel W keep ρ' g' w'
  ok : v.ok ρ' g'.next
  le : g.next ≤ g'.next

end Go.Lm

/-
  The logical machine, part B: the model's primitive steps on memory, seen from the logical heap.
-/
namespace Go.Lm

variable {P : Program} {W : World} {keep : Nat → Prop} {ρ : Ren} {g : LHeap} {w : World}

theorem run_bind {α β : Type} (P : Program) (s : Sem α) (f : α → Sem β) (w : World) :
    (s >>= f).run P w = match s.run P w with | .ok a w' => (f a).run P w' | .halt h w' => .halt h w' := by
  show (Sem.bind s f).run P w = _
  induction s generalizing w with
  | pure a => simp [Sem.bind, Sem.run]
  | load m a k ih =>
    simp only [Sem.bind, Sem.run]
    cases hc : w.cell? a with
    | some v => exact ih v w
    | none =>
      cases hf : w.farLoad P a (m == .atomic) with
      | ok r => exact ih _ w
      | error h => rfl
  | store m a v k ih =>
    cases v
    case agg => rfl
    case tuple => rfl
    all_goals
      simp only [Sem.bind, Sem.run]
      cases hc : w.cell? a with
      | some v =>
        simp only []
        split
        · rfl
        · exact ih _
      | none =>
        simp only []
        split
        · exact ih _
        · rfl
  | new o k ih => exact ih _ _
  | shape r k ih => exact ih _ _
  | freeze a n k ih => exact ih _
  | frozen a k ih => exact ih _ _
  | getObj r k ih =>
    simp only [Sem.bind, Sem.run]
    split
    · rfl
    · exact ih _ _
    · rfl
  | setObj r o k ih =>
    simp only [Sem.bind, Sem.run]
    split
    · rfl
    · exact ih _
    · rfl
  | choose q k ih =>
    simp only [Sem.bind, Sem.run]
    split
    · exact ih _ _
    · exact ih _ _
  | sys c k ih => exact ih _ _
  | program k ih => exact ih _ _
  | mark m k ih => exact ih _
  | halt h => rfl
theorem run_pure {α : Type} (P : Program) (a : α) (w : World) : (pure a : Sem α).run P w = .ok a w := rfl
theorem run_bind_ok {α β : Type} {P : Program} {s : Sem α} {f : α → Sem β} {w w' : World} {a : α} (h : s.run P w = .ok a w') : (s >>= f).run P w = (f a).run P w' := by
  rw [run_bind, h]
theorem run_program (P : Program) (w : World) : (program : Sem Program).run P w = .ok P w := rfl
theorem run_typeInfo {t : TypeId} {i : TypeInfo} (h : P.info? t = some i) (w : World) : (typeInfo t).run P w = .ok i w := by
  simp only [typeInfo]; rw [run_bind_ok (run_program P w)]; simp only [h]; rfl
theorem run_underlying' {t : TypeId} {d : TypeDesc} (h : P.underlying t = some d) (w : World) : (underlying t).run P w = .ok d w := by
  simp only [underlying]; rw [run_bind_ok (run_program P w)]; simp only [h]; rfl
theorem run_sizeOf' {t : TypeId} {i : TypeInfo} (h : P.info? t = some i) (w : World) : (sizeOf t).run P w = .ok i.size w := by
  simp only [sizeOf]; rw [run_bind_ok (run_typeInfo h w)]; rfl
theorem run_zeroValue' {t : TypeId} {i : TypeInfo} {v : Value} (h : P.info? t = some i) (hz : i.zero = some v) (w : World) : (zeroValue t).run P w = .ok v w := by
  simp only [zeroValue]; rw [run_bind_ok (run_typeInfo h w)]; simp only [hz]; rfl

def isAggD : TypeDesc → Bool
  | .struct _ | .array _ _ => true
  | _ => false
theorem run_isAgg {t : TypeId} {d : TypeDesc} (h : P.underlying t = some d) (w : World) : (isAgg t).run P w = .ok (isAggD d) w := by
  simp only [isAgg]; rw [run_bind_ok (run_underlying' h w)]; cases d <;> rfl

/-! ### Cells -/
theorem Rel.cell {vs : List LV} {own : Own} {i off j : Nat} {v : LV} (h : Rel W keep ρ g w) (hg : g.get i = some (.cells vs own)) (hv : vs[off]? = some v) (hj : j = ρ.base i + off) :
    w.cell? ⟨ρ.blk i, j, none⟩ = some (v.toV ρ) := by
  obtain ⟨_, _, _, C, ty, fz, hb, _, hc, _⟩ := h.obj i _ hg
  subst hj
  simp only [World.cell?, hb]
  simpa using hc off v hv
theorem Rel.oks {vs : List LV} {own : Own} {i : Nat} (h : Rel W keep ρ g w) (hg : g.get i = some (.cells vs own)) : Lm.oks ρ g.next vs := (h.obj i _ hg).2.1
theorem Rel.celled {vs : List LV} {own : Own} {i : Nat} (h : Rel W keep ρ g w) (hg : g.get i = some (.cells vs own)) : ∀ v ∈ vs, v.cell = true := (h.obj i _ hg).2.2.1

theorem run_load {a : Addr} {v : Value} (h : w.cell? a = some v) : (load a).run P w = .ok v w := by
  simp [load, Sem.run, h]

theorem run_loadCellsFrom {vs : List LV} {own : Own} {i off : Nat} (h : Rel W keep ρ g w) (hg : g.get i = some (.cells vs own)) :
    ∀ (n k : Nat) (acc : Array Value), off + k + n ≤ vs.length →
      (loadCellsFrom (ρ.addr i off) k n acc).run P w = .ok (acc ++ (toVs ρ ((vs.drop (off + k)).take n)).toArray) w := by
  intro n
  induction n with
  | zero => intro k acc _; simp only [loadCellsFrom, toVs, List.take_zero, run_pure, List.toArray, Array.append_empty]
  | succ n ih =>
    intro k acc hn
    simp only [loadCellsFrom]
    have hlt : off + k < vs.length := by omega
    have hadd : (ρ.addr i off).add k = ⟨ρ.blk i, ρ.base i + (off + k), none⟩ := by
      unfold Addr.add Ren.addr
      split
      · subst_vars; rfl
      · simp [Nat.add_assoc]
    have hl : (load ((ρ.addr i off).add k)).run P w = .ok ((vs[off + k]).toV ρ) w := run_load (by
      rw [hadd]; exact h.cell hg (List.getElem?_eq_getElem hlt) rfl)
    rw [run_bind_ok hl, ih (k + 1) _ (by omega)]
    rw [show off + (k + 1) = off + k + 1 from rfl, List.drop_eq_getElem_cons hlt, List.take_succ_cons, toVs]
    simp
theorem run_loadCells {vs : List LV} {own : Own} {i off n : Nat} (h : Rel W keep ρ g w) (hg : g.get i = some (.cells vs own)) (hn : off + n ≤ vs.length) :
    (loadCells (ρ.addr i off) n).run P w = .ok (toVs ρ ((vs.drop off).take n)).toArray w := by
  unfold loadCells
  rw [run_loadCellsFrom h hg n 0 #[] (by omega)]
  simp

/-! ### Stores -/
/-- One object turned in place: the rest of the relation stays. -/
theorem Rel.turn {i : Nat} {o o' : LObj} {x : Obj} (h : Rel W keep ρ g w) (hg : g.get i = some o) (hm : o.mine = true)
    (ho : ObjR ρ g.next { w with heap := w.heap.setIfInBounds (ρ.blk i) x } i o') :
    Rel W keep ρ (g.set i o') { w with heap := w.heap.setIfInBounds (ρ.blk i) x } where
  os := h.os
  tape := h.tape
  output := h.output
  size := by simpa using h.size
  kept b hb := by
    refine ⟨(h.kept b hb).1, ?_⟩
    have : ρ.blk i ≠ b := fun e => h.mine i o hg hm (e ▸ hb)
    rw [← (h.kept b hb).2]
    simp [Array.getElem?_setIfInBounds_ne this]
  obj j p hj := by
    simp only [LHeap.get_set] at hj
    split at hj
    · rename_i e; subst e; cases hj
      exact ⟨(h.obj _ _ hg).1, ho⟩
    · rename_i e
      refine ⟨(h.obj _ _ hj).1, (h.obj _ _ hj).2.heap ?_⟩
      have : ρ.blk i ≠ ρ.blk j := h.inj i j o p hg hj (Ne.symm e) (.inl hm)
      simp [Array.getElem?_setIfInBounds_ne this]
  inj j k p q hj hk hne hpq := by
    simp only [LHeap.get_set] at hj hk
    split at hj <;> split at hk
    · rename_i e1 e2; exact absurd (e1.trans e2.symm) hne
    · rename_i e1 e2; subst e1; exact h.inj _ _ _ _ hg hk hne (.inl hm)
    · rename_i e1 e2; subst e2; exact h.inj _ _ _ _ hj hg hne (.inr hm)
    · exact h.inj _ _ _ _ hj hk hne hpq
  mine j p hj hp := by
    simp only [LHeap.get_set] at hj
    split at hj
    · rename_i e; subst e; exact h.mine _ _ hg hm
    · exact h.mine _ _ hj hp

theorem World.setCell_eq {b off : Nat} {C : Array Value} {ty : TypeId} {fz : Nat × Nat} (v : Value) (hb : w.heap[b]? = some (.cells C ty fz)) :
    w.setCell ⟨b, off, none⟩ v = { w with heap := w.heap.setIfInBounds b (.cells (C.setIfInBounds off v) ty fz) } := by
  have hlt := (Array.getElem?_eq_some_iff.1 hb).1
  have hget := (Array.getElem?_eq_some_iff.1 hb).2
  unfold World.setCell
  congr 1
  apply Array.ext
  · simp
  · intro k h1 h2
    simp only [Array.getElem_modify]
    by_cases e : b = k
    · subst e; simp [hget]
    · rw [if_neg e]
      have : (w.heap.setIfInBounds b (.cells (C.setIfInBounds off v) ty fz))[k]? = w.heap[k]? := Array.getElem?_setIfInBounds_ne e
      rw [Array.getElem?_eq_getElem h2, Array.getElem?_eq_getElem (by simpa using h2)] at this
      exact (Option.some.inj this).symm

theorem run_store {a : Addr} {v : Value} (hc : (w.cell? a).isSome = true) (hf : w.frozen? a = false) (h1 : ∀ c, v ≠ .agg c) (h2 : ∀ c, v ≠ .tuple c) :
    (store a v).run P w = .ok () (w.setCell a v) := by
  obtain ⟨u, hu⟩ := Option.isSome_iff_exists.1 hc
  cases v with
  | agg c => exact absurd rfl (h1 c)
  | tuple c => exact absurd rfl (h2 c)
  | _ => simp [store, Sem.run, hu, hf]

/-- What is known of the block of an object of one's own, while cells are written one by one. -/
theorem run_storeCells_aux {b base : Nat} {ty : TypeId} {fz : Nat × Nat} :
    ∀ (new : List Value) (k : Nat) (C : Array Value) (w : World), w.heap[b]? = some (.cells C ty fz) → base + k + new.length ≤ C.size →
      (∀ o, o < C.size → ¬ (fz.1 ≤ o ∧ o < fz.2)) → (∀ v ∈ new, (∀ c, v ≠ .agg c) ∧ (∀ c, v ≠ .tuple c)) →
      ∃ C', (storeCells ⟨b, base, none⟩ new k).run P w = .ok () { w with heap := w.heap.setIfInBounds b (.cells C' ty fz) } ∧ C'.size = C.size ∧
        (∀ j, C'[j]? = if base + k ≤ j ∧ j < base + k + new.length then new[j - (base + k)]? else C[j]?) := by
  intro new
  induction new with
  | nil =>
    intro k C w hb _ _ _
    refine ⟨C, ?_, rfl, fun j => by rw [if_neg (by simp)]⟩
    have : w.heap.setIfInBounds b (.cells C ty fz) = w.heap := by
      apply Array.ext_getElem?
      intro j
      rw [Array.getElem?_setIfInBounds]
      split
      · rename_i e; subst e
        split
        · exact hb.symm
        · rename_i h; exact absurd (Array.getElem?_eq_some_iff.1 hb).1 h
      · rfl
    rw [this]
    rfl
  | cons v vs ih =>
    intro k C w hb hn hf hv
    simp only [List.length_cons] at hn
    have hadd : (⟨b, base, none⟩ : Addr).add k = ⟨b, base + k, none⟩ := by unfold Addr.add; split <;> simp_all
    have hs : (store ((⟨b, base, none⟩ : Addr).add k) v).run P w = .ok () (w.setCell ⟨b, base + k, none⟩ v) := by
      rw [hadd]
      refine run_store ?_ ?_ (hv v (by simp)).1 (hv v (by simp)).2
      · simp only [World.cell?, hb]
        simp [show base + k < C.size by omega]
      · simp only [World.frozen?, hb]
        have := hf (base + k) (by omega)
        simpa using this
    have hb' : (w.setCell ⟨b, base + k, none⟩ v).heap[b]? = some (.cells (C.setIfInBounds (base + k) v) ty fz) := by
      rw [World.setCell_eq v hb]
      have hlt := (Array.getElem?_eq_some_iff.1 hb).1
      simp [hlt]
    obtain ⟨C', h1, h2, h3⟩ := ih (k + 1) _ _ hb' (by simp; omega) (by simpa using hf) (fun u hu => hv u (by simp [hu]))
    refine ⟨C', ?_, by simpa using h2, fun j => ?_⟩
    · simp only [storeCells]
      rw [run_bind_ok hs, h1]
      rw [World.setCell_eq v hb]
      simp
    · rw [h3 j]
      simp only [List.length_cons]
      by_cases hj : base + (k + 1) ≤ j ∧ j < base + (k + 1) + vs.length
      · rw [if_pos hj, if_pos (by omega), show j - (base + k) = (j - (base + (k + 1))) + 1 by omega]
        simp
      · rw [if_neg hj]
        by_cases hj2 : base + k ≤ j ∧ j < base + k + (vs.length + 1)
        · have : j = base + k := by omega
          subst this
          rw [if_pos hj2]
          simp [show base + k < C.size by omega]
        · rw [if_neg hj2]
          rw [Array.getElem?_setIfInBounds_ne (by omega)]

/-- new laid over vs from off on (as far as vs reaches, or beyond it) -/
def splice (vs : List LV) (off : Nat) (new : List LV) : List LV := vs.take off ++ new ++ vs.drop (off + new.length)
theorem splice_get {vs new : List LV} {off : Nat} (hoff : off ≤ vs.length) (j : Nat) :
    (splice vs off new)[j]? = if off ≤ j ∧ j < off + new.length then new[j - off]? else vs[j]? := by
  unfold splice
  have hl : (vs.take off).length = off := by simp; omega
  rw [List.append_assoc, List.getElem?_append, hl]
  by_cases h1 : j < off
  · rw [if_pos h1, if_neg (by omega), List.getElem?_take, if_pos h1]
  · rw [if_neg h1, List.getElem?_append]
    by_cases h2 : j - off < new.length
    · rw [if_pos h2, if_pos (by omega)]
    · rw [if_neg h2, if_neg (by omega), List.getElem?_drop]
      congr 1; omega
theorem splice_length {vs new : List LV} {off : Nat} (h : off + new.length ≤ vs.length) : (splice vs off new).length = vs.length := by
  unfold splice; simp; omega
theorem splice_mem {vs new : List LV} {off : Nat} {v : LV} (h : v ∈ splice vs off new) : v ∈ vs ∨ v ∈ new := by
  unfold splice at h
  simp only [List.mem_append] at h
  rcases h with (h | h) | h
  · exact .inl (List.mem_of_mem_take h)
  · exact .inr h
  · exact .inl (List.mem_of_mem_drop h)

theorem toVs_getElem? (ρ : Ren) (l : List LV) (j : Nat) : (toVs ρ l)[j]? = (l[j]?).map (LV.toV ρ) := by rw [toVs_eq]; simp

/-- Cells written within an object of one's own. -/
theorem run_storeCells {vs new : List LV} {own : Own} {i off : Nat} (h : Rel W keep ρ g w) (hg : g.get i = some (.cells vs own)) (hown : own ≠ .ro)
    (hn : off + new.length ≤ vs.length) (hok : Lm.oks ρ g.next new) (hcell : ∀ v ∈ new, v.cell = true) :
    ∃ w', (storeCells (ρ.addr i off) (toVs ρ new)).run P w = .ok () w' ∧ Rel W keep ρ (g.set i (.cells (splice vs off new) own)) w' := by
  obtain ⟨hi, h1, h2, C, ty, fz, hb, hC, hc, hf, hop⟩ := h.obj i _ hg
  have hmine : (LObj.cells vs own).mine = true := by cases own <;> simp_all [LObj.mine]
  obtain ⟨C', hr, hs, hget⟩ := run_storeCells_aux (P := P) (b := ρ.blk i) (base := ρ.base i + off) (toVs ρ new) 0 C w hb
    (by rw [toVs_length]; omega) (hf hown) (fun v hv => by
      rw [toVs_eq] at hv
      obtain ⟨u, hu, rfl⟩ := List.mem_map.1 hv
      exact LV.not_agg (hcell u hu))
  refine ⟨_, hr, h.turn hg hmine ⟨?_, ?_, C', ty, fz, ?_, by rw [splice_length hn, hs]; exact hC, ?_, ?_, ?_⟩⟩
  · exact (oks_iff _ _ _).2 fun v hv => (splice_mem hv).elim ((oks_iff _ _ _).1 h1 v) ((oks_iff _ _ _).1 hok v)
  · exact fun v hv => (splice_mem hv).elim (h2 v) (hcell v)
  · have hlt := (Array.getElem?_eq_some_iff.1 hb).1
    simp [hlt]
  · intro j v hj
    rw [splice_get (by omega)] at hj
    rw [hget, toVs_length]
    by_cases hin : off ≤ j ∧ j < off + new.length
    · rw [if_pos hin] at hj
      rw [if_pos (by omega), toVs_getElem?, show ρ.base i + j - (ρ.base i + off + 0) = j - off by omega, hj]
      rfl
    · rw [if_neg hin] at hj
      rw [if_neg (by omega)]
      exact hc j v hj
  · rw [hs]; exact hf
  · intro e
    rw [hs]
    exact hop e

/-! ### New objects -/
theorem Rel.new {o : LObj} {x : Obj} {cap : Nat} (h : Rel W keep ρ g w)
    (ho : ObjR (ρ.put g.next w.heap.size 0 cap) (g.next + 1) { w with heap := w.heap.push x } g.next o) :
    Rel W keep (ρ.put g.next w.heap.size 0 cap) (g.alloc o) { w with heap := w.heap.push x } := by
  have hx : Ren.Ext g.next ρ (ρ.put g.next w.heap.size 0 cap) := Ren.put_ext _ _ _ _ _
  have hget : ∀ b, b < w.heap.size → (w.heap.push x)[b]? = w.heap[b]? := fun b hb => by
    rw [Array.getElem?_push, if_neg (by omega)]
  have hblk : ∀ j p, g.get j = some p → (ρ.put g.next w.heap.size 0 cap).blk j = ρ.blk j ∧ ρ.blk j < w.heap.size := fun j p hj =>
    ⟨(hx j (h.obj j p hj).1).1, (h.obj j p hj).2.lt⟩
  refine ⟨h.os, h.tape, h.output, by have := h.size; simp; omega, fun b hb => ⟨(h.kept b hb).1, ?_⟩, fun j p hj => ?_, fun j k p q hj hk hne hpq => ?_, fun j p hj hp => ?_⟩
  · rw [← (h.kept b hb).2]
    exact hget b (by have := (h.kept b hb).1; have := h.size; omega)
  · simp only [LHeap.get_alloc] at hj
    split at hj
    · rename_i e; subst e; cases hj
      exact ⟨by simp, ho⟩
    · have := (h.obj j p hj).1
      refine ⟨by simp; omega, ObjR.ext this hx (by simp) ((h.obj j p hj).2.heap ?_)⟩
      exact hget _ (hblk j p hj).2
  · simp only [LHeap.get_alloc] at hj hk
    split at hj <;> split at hk
    · rename_i e1 e2; exact absurd (e1.trans e2.symm) hne
    · rename_i e1 e2; subst e1
      rw [(hblk k q hk).1, Ren.put_blk]
      have := (hblk k q hk).2; omega
    · rename_i e1 e2; subst e2
      rw [(hblk j p hj).1, Ren.put_blk]
      have := (hblk j p hj).2; omega
    · rw [(hblk j p hj).1, (hblk k q hk).1]; exact h.inj _ _ _ _ hj hk hne hpq
  · simp only [LHeap.get_alloc] at hj
    split at hj
    · rename_i e; subst e
      intro hk
      have := (h.kept _ hk).1
      have := h.size
      rw [Ren.put_blk] at *
      omega
    · rw [(hblk j p hj).1]; exact h.mine _ _ hj hp

/-- A new row of cells, all known. -/
theorem Rel.newCells {vs : List LV} {ty : TypeId} (h : Rel W keep ρ g w) (hok : Lm.oks ρ g.next vs) (hcell : ∀ v ∈ vs, v.cell = true) :
    Rel W keep (ρ.put g.next w.heap.size 0 0) (g.alloc (.cells vs .ex)) { w with heap := w.heap.push (.cells (toVs ρ vs).toArray ty) } := by
  have hx : Ren.Ext g.next ρ (ρ.put g.next w.heap.size 0 0) := Ren.put_ext _ _ _ _ _
  refine h.new ⟨oks_ext hx (by simp) vs hok, hcell, (toVs ρ vs).toArray, ty, (0, 0), ?_, ?_, fun j v hj => ?_, fun _ o _ => by simp, fun e => by cases e⟩
  · simp
  · simp [toVs_length]
  · rw [Ren.put_base, Nat.zero_add, LV.toV_ext hx v ((oks_iff _ _ _).1 hok v (List.mem_of_getElem? hj))]
    simp [toVs_getElem?, hj]
theorem run_newRow (ty : TypeId) (C : Array Value) (w : World) : (newRow ty C).run P w = .ok ⟨w.heap.size, 0, none⟩ { w with heap := w.heap.push (.cells C ty) } := rfl
theorem run_newObj (o : Obj) (w : World) : (newObj o).run P w = .ok w.heap.size { w with heap := w.heap.push o } := rfl
theorem Ren.put_addr (ρ : Ren) (n b cap : Nat) : (ρ.put n b 0 cap).addr n 0 = ⟨b, 0, none⟩ := by simp [Ren.addr]

/-- A new row that has spare cells behind those that are known. -/
theorem Rel.newOpen {vs : List LV} {rest : Array Value} {ty : TypeId} {fz : Nat × Nat} (h : Rel W keep ρ g w) (hok : Lm.oks ρ g.next vs) (hcell : ∀ v ∈ vs, v.cell = true)
    (hfz : ∀ o, o < vs.length + rest.size → ¬ (fz.1 ≤ o ∧ o < fz.2)) :
    Rel W keep (ρ.put g.next w.heap.size 0 (vs.length + rest.size)) (g.alloc (.cells vs .op)) { w with heap := w.heap.push (.cells ((toVs ρ vs).toArray ++ rest) ty fz) } := by
  have hx : Ren.Ext g.next ρ (ρ.put g.next w.heap.size 0 (vs.length + rest.size)) := Ren.put_ext _ _ _ _ _
  refine h.new ⟨oks_ext hx (by simp) vs hok, hcell, (toVs ρ vs).toArray ++ rest, ty, fz, ?_, ?_, fun j v hj => ?_, fun _ o ho => hfz o (by simpa [toVs_length] using ho), fun _ => ?_⟩
  · simp
  · simp [toVs_length]
  · have hlt : j < vs.length := (List.getElem?_eq_some_iff.1 hj).1
    rw [Ren.put_base, Nat.zero_add, LV.toV_ext hx v ((oks_iff _ _ _).1 hok v (List.mem_of_getElem? hj))]
    rw [Array.getElem?_append_left (by simp [toVs_length]; exact hlt)]
    simp [toVs_getElem?, hj]
  · simp [toVs_length]

/-- An object may be forgotten. -/
theorem Rel.erase {i : Nat} (h : Rel W keep ρ g w) : Rel W keep ρ (g.erase i) w where
  os := h.os
  tape := h.tape
  output := h.output
  size := h.size
  kept := h.kept
  obj j p hj := by
    simp only [LHeap.get_erase] at hj
    split at hj
    · cases hj
    · exact h.obj j p hj
  inj j k p q hj hk := by
    simp only [LHeap.get_erase] at hj hk
    split at hj
    · cases hj
    · split at hk
      · cases hk
      · exact h.inj j k p q hj hk
  mine j p hj := by
    simp only [LHeap.get_erase] at hj
    split at hj
    · cases hj
    · exact h.mine j p hj

/-- A draw changes nothing. -/
theorem Rel.drawn {n : Nat} (h : Rel W keep ρ g w) : Rel W keep ρ g { w with drawn := n } :=
  ⟨h.os, h.tape, h.output, h.size, h.kept, fun i o hi => ⟨(h.obj i o hi).1, (h.obj i o hi).2.heap rfl⟩, h.inj, h.mine⟩

theorem LHeap.get_erase_alloc {i j : Nat} {o p : LObj} (h : ((g.erase i).alloc o).get j = some p) : (j = g.next ∧ p = o) ∨ (j ≠ g.next ∧ j ≠ i ∧ g.get j = some p) := by
  simp only [LHeap.get_alloc, LHeap.next_erase, LHeap.get_erase] at h
  by_cases e : j = g.next
  · rw [if_pos e] at h; exact .inl ⟨e, (Option.some.inj h).symm⟩
  · rw [if_neg e] at h
    by_cases e2 : j = i
    · rw [if_pos e2] at h; cases h
    · rw [if_neg e2] at h; exact .inr ⟨e, e2, h⟩

/-- A row that may grow, grown in its own block: the elder object is forgotten, the new one begins at 'off' in the same block. -/
theorem Rel.regrow {i off : Nat} {vs vs' : List LV} {C' : Array Value} {ty : TypeId} {fz : Nat × Nat} (h : Rel W keep ρ g w) (hg : g.get i = some (.cells vs .op))
    (hok : Lm.oks ρ g.next vs') (hcell : ∀ v ∈ vs', v.cell = true) (hoff : off ≤ ρ.cap i) (hC : C'.size = ρ.base i + ρ.cap i) (hlen : off + vs'.length ≤ ρ.cap i)
    (hget : ∀ j v, vs'[j]? = some v → C'[ρ.base i + off + j]? = some (v.toV ρ)) (hfz : ∀ o, o < C'.size → ¬ (fz.1 ≤ o ∧ o < fz.2)) :
    Rel W keep (ρ.put g.next (ρ.blk i) (ρ.base i + off) (ρ.cap i - off)) ((g.erase i).alloc (.cells vs' .op)) { w with heap := w.heap.setIfInBounds (ρ.blk i) (.cells C' ty fz) } := by
  have hx : Ren.Ext g.next ρ (ρ.put g.next (ρ.blk i) (ρ.base i + off) (ρ.cap i - off)) := Ren.put_ext _ _ _ _ _
  have hi := h.obj i _ hg
  have hm : (LObj.cells vs .op).mine = true := rfl
  have hlt := hi.2.lt
  have hblk : ∀ j p, g.get j = some p → (ρ.put g.next (ρ.blk i) (ρ.base i + off) (ρ.cap i - off)).blk j = ρ.blk j := fun j p hj => (hx j (h.obj j p hj).1).1
  refine ⟨h.os, h.tape, h.output, by simpa using h.size, fun b hb => ⟨(h.kept b hb).1, ?_⟩, fun j p hj => ?_, fun j k p q hj hk hne hpq => ?_, fun j p hj hp => ?_⟩
  · have : ρ.blk i ≠ b := fun e => h.mine i _ hg hm (e ▸ hb)
    rw [← (h.kept b hb).2]
    simp [Array.getElem?_setIfInBounds_ne this]
  · rcases LHeap.get_erase_alloc hj with ⟨e, e'⟩ | ⟨e1, e2, hj⟩
    · subst e; subst e'
      refine ⟨by simp, oks_ext hx (by simp) vs' hok, hcell, C', ty, fz, ?_, ?_, fun j v hj => ?_, fun _ => hfz, fun _ => ?_⟩
      · simp [hlt]
      · simp; omega
      · rw [Ren.put_base, LV.toV_ext hx v ((oks_iff _ _ _).1 hok v (List.mem_of_getElem? hj))]
        exact hget j v hj
      · simp; omega
    · have hj1 := (h.obj j p hj).1
      refine ⟨by simp; omega, ObjR.ext hj1 hx (by simp) ((h.obj j p hj).2.heap ?_)⟩
      have : ρ.blk i ≠ ρ.blk j := h.inj i j _ p hg hj (Ne.symm e2) (.inl hm)
      simp [Array.getElem?_setIfInBounds_ne this]
  · rcases LHeap.get_erase_alloc hj with ⟨e, e'⟩ | ⟨e1, e2, hj⟩ <;> rcases LHeap.get_erase_alloc hk with ⟨f, f'⟩ | ⟨f1, f2, hk⟩
    · exact absurd (e.trans f.symm) hne
    · subst e
      rw [hblk k q hk, Ren.put_blk]
      exact h.inj i k _ q hg hk (Ne.symm f2) (.inl hm)
    · subst f
      rw [hblk j p hj, Ren.put_blk]
      exact h.inj j i p _ hj hg e2 (.inr hm)
    · rw [hblk j p hj, hblk k q hk]; exact h.inj _ _ _ _ hj hk hne hpq
  · rcases LHeap.get_erase_alloc hj with ⟨e, e'⟩ | ⟨e1, e2, hj⟩
    · subst e
      rw [Ren.put_blk]; exact h.mine i _ hg hm
    · rw [hblk j p hj]; exact h.mine _ _ hj hp

end Go.Lm

/-
  The logical machine, part C: what each operation does, as plain functions on logical values and heaps; the code's meaning as a predicate.
-/
namespace Go.Lm

structure LSt where
  tm : Nat → LV
  g : LHeap

def undefL : LV := .tuple []
def putL (tm : Nat → LV) (dst : Option Nat) (v : LV) : Nat → LV :=
  match dst with
  | some d => fun i => if Nat.beq i d then v else tm i
  | none => tm
def constL (v : Value) : LV := (ofV 6 v).getD undefL
def evL (tm : Nat → LV) : Operand → LV
  | .tmp t => tm t
  | .const v => constL v
  | .global _ => undefL
  | .func f => .func (.func f) [] []

/-! ### What is asked of types -/
section types
variable (P : Program)
def infoL (t : TypeId) : Option TypeInfo := P.info? t
/-- none: no such type; some none: one cell; some (some n): a struct or an array of n cells -/
def aggN (t : TypeId) : Option (Option Nat) :=
  match P.underlying t, P.info? t with
  | some d, some i => some (if isAggD d then some i.size else none)
  | _, _ => none
def sizeL (t : TypeId) : Option Nat := (P.info? t).map (·.size)
def zeroL (t : TypeId) : Option LV :=
  match P.info? t with
  | some i => match i.zero with
    | some v => ofV 6 v
    | none => none
  | none => none
def fieldL (s : TypeId) (f : Nat) : Option Field :=
  match P.underlying s with
  | some (.struct fs) => fs[f]?
  | _ => none
def fieldOff (s : TypeId) (f : Nat) : Option Nat :=
  match fieldL P s f with
  | some fd => match sizeL P fd.type with
    | some 0 => none
    | some _ => some fd.offset
    | none => none
  | none => none
def sliceElem (t : TypeId) : Option TypeId :=
  match P.underlying t with
  | some (.slice e) => some e
  | _ => none
/-- an array's length (none: a slice), the cells of an element -/
def ixShape (t : TypeId) : Option (Option Nat × Nat) :=
  match P.underlying t with
  | some (.array n e) => (sizeL P e).map fun z => (some n, z)
  | some (.slice e) => (sizeL P e).map fun z => (none, z)
  | _ => none
def mapShape (t : TypeId) : Option (TypeId × TypeId) :=
  match P.underlying t with
  | some (.map k e) => some (k, e)
  | _ => none
def intKindL (t : TypeId) : Option IntKind :=
  match P.underlying t with
  | some (.int k) => some k
  | _ => none
end types

/-! ### Values -/
def LV.cellsOK (v : LV) : Bool := v.cells.all LV.cell
def newL (v : LV) (g : LHeap) : Option (LV × LHeap) := if v.cellsOK then some (.ptr g.next 0, g.alloc (.cells v.cells .ex)) else none
def partL (n : Option Nat) (cs : List LV) (off : Nat) : Option LV :=
  match n with
  | some n => some (.agg ((cs.drop off).take n))
  | none => cs[off]?
def loadV (n : Option Nat) (x : LV) (g : LHeap) : Option LV :=
  match x with
  | .ptr a off =>
    match g.get a with
    | some (.cells vs _) =>
      match n with
      | none => vs[off]?
      | some n => if off + n ≤ vs.length then some (.agg ((vs.drop off).take n)) else none
    | _ => none
  | _ => none
def loadT (P : Program) (t : TypeId) (x : LV) (g : LHeap) : Option LV :=
  match aggN P t with
  | some n => loadV n x g
  | none => none
def storeCellsL (a off : Nat) (new : List LV) (g : LHeap) : Option LHeap :=
  match g.get a with
  | some (.cells vs own) => if own ≠ .ro ∧ off + new.length ≤ vs.length ∧ new.all LV.cell = true then some (g.set a (.cells (splice vs off new) own)) else none
  | _ => none
def storeV (n : Nat) (x v : LV) (g : LHeap) : Option LHeap :=
  match x with
  | .ptr a off => if v.cells.length = n then storeCellsL a off v.cells g else none
  | _ => none
def storeT (P : Program) (t : TypeId) (x v : LV) (g : LHeap) : Option LHeap :=
  match sizeL P t with
  | some n => storeV n x v g
  | none => none
def pickL (c a b : LV) : Option LV :=
  match c with
  | .bool true => some a
  | .bool false => some b
  | _ => none
/-- The method of a dynamic type: a function with a receiver, the value itself. -/
def methodL (P : Program) (t : TypeId) (name : String) : Option FuncId :=
  match P.info? t, P.underlying t with
  | some i, some (.pointer _) => match i.methods.find? (·.name == name) with
    | some m => if m.path.isEmpty then match m.func with
      | some (f, true) => some f
      | _ => none
      else none
    | none => none
  | _, _ => none
def nilCheckL (x : LV) : Option LV :=
  match x with
  | .ptr a off => some (.ptr a off)
  | .iface t v => some (.iface t v)
  | .func (.func f) first caps => some (.func (.func f) first caps)
  | _ => none
/-- A method value, ahead of its call: the receiver is one that has the method. -/
def nilCheckP (P : Program) (x : LV) : Option LV :=
  match x with
  | .func (.method name) (.iface t v :: first) caps => match methodL P t name with
    | some _ => some (.func (.method name) (.iface t v :: first) caps)
    | none => none
  | x => nilCheckL x
def fieldAddrL (o : Nat) (x : LV) : Option LV :=
  match x with
  | .ptr a off => some (.ptr a (off + o))
  | _ => none
def fieldAddrT (P : Program) (s : TypeId) (f : Nat) (x : LV) : Option LV :=
  match fieldOff P s f with
  | some o => fieldAddrL o x
  | none => none
def fieldVL (n : Option Nat) (o : Nat) (x : LV) : Option LV :=
  match x with
  | .agg cs => partL n cs o
  | _ => none
def fieldVT (P : Program) (s : TypeId) (f : Nat) (x : LV) : Option LV :=
  match fieldL P s f with
  | some fd => match aggN P fd.type with
    | some n => fieldVL n fd.offset x
    | none => none
  | none => none
def ixAddrL (len : Option Nat) (sz : Nat) (x ix : LV) : Option LV :=
  match ix with
  | .int _ i =>
    match len, x with
    | some n, .ptr a off => if 0 ≤ i ∧ i < n then some (.ptr a (off + i.toNat * sz)) else none
    | none, .slice a off l _ => if 0 ≤ i ∧ i < l then some (.ptr a (off + i.toNat * sz)) else none
    | _, _ => none
  | _ => none
def ixAddrT (P : Program) (t : TypeId) (x ix : LV) : Option LV :=
  match ixShape P t with
  | some (len, sz) => ixAddrL len sz x ix
  | none => none
def ixStrL (x ix : LV) : Option LV :=
  match ix, x with
  | .int _ i, .str s => if 0 ≤ i then (s[i.toNat]?).map fun b => .int .u8 b.toNat else none
  | _, _ => none
def ixAggL (len sz : Nat) (n : Option Nat) (x ix : LV) : Option LV :=
  match ix, x with
  | .int _ i, .agg cs => if 0 ≤ i ∧ i < len then partL n cs (i.toNat * sz) else none
  | _, _ => none
def indexT (P : Program) (t : TypeId) (x ix : LV) : Option LV :=
  match P.underlying t with
  | some .string => ixStrL x ix
  | some (.array len e) => match aggN P e, sizeL P e with
    | some n, some sz => ixAggL len sz n x ix
    | _, _ => none
  | _ => none
def intL : LV → Option Int
  | .int _ n => some n
  | _ => none
/-- A slice's cut from l to h (hs: h is written out), the capacity's end where it is given; e: the cells of an element. -/
def cutS (e a off len lim : Nat) (cap : Cap) (l h : Int) (hs : Bool) (mx : Option Int) : Option LV :=
  match mx, cap with
  | some m, .ex c => if hs = true ∧ h ≤ m ∧ m ≤ c then some (.slice a (if m = l then off else off + l.toNat * e) (h - l).toNat (.ex (m - l).toNat)) else none
  | none, .ex c => if h ≤ c then some (.slice a (if (c : Int) = l then off else off + l.toNat * e) (h - l).toNat (.ex (c - l).toNat)) else none
  | some m, .op e' => if hs = true ∧ h ≤ m ∧ m ≤ len ∧ e' = e then some (.slice a (if m = l then off else off + l.toNat * e) (h - l).toNat (.ex (m - l).toNat)) else none
  | none, .op e' => if h ≤ max len lim ∧ e' = e then
      (if l < max len lim then some (.slice a (off + l.toNat * e) (h - l).toNat (.op e)) else some (.tail a (off + l.toNat * e) off e false)) else none
def cutL (e : Nat) (x : LV) (lo hi mx : Option Int) (lim : Nat) : Option LV :=
  match x with
  | .nils => if (lo.getD 0 = 0) ∧ (hi.getD 0 = 0) ∧ (mx.getD 0 = 0) ∧ (mx.isSome → hi.isSome) then some .nils else none
  | .slice a off len cap => if 0 ≤ lo.getD 0 ∧ lo.getD 0 ≤ hi.getD len then cutS e a off len lim cap (lo.getD 0) (hi.getD len) hi.isSome mx else none
  | .tail a off alt e' z =>
    if lo.getD 0 = 0 ∧ hi.getD 0 = 0 ∧ mx.getD 0 = 0 ∧ (mx.isSome → hi.isSome) then some (.tail a off alt e' (z || mx.isSome)) else none
  | _ => none
def cutStrL (x : LV) (lo hi : Option Int) : Option LV :=
  match x with
  | .str s => if 0 ≤ lo.getD 0 ∧ lo.getD 0 ≤ hi.getD s.length ∧ hi.getD s.length ≤ s.length then some (.str ((s.take (hi.getD s.length).toNat).drop (lo.getD 0).toNat)) else none
  | _ => none
/-- of an array's address -/
def cutArrL (n e : Nat) (x : LV) (lo hi mx : Option Int) : Option LV :=
  match x with
  | .ptr a off =>
    if 0 ≤ lo.getD 0 ∧ lo.getD 0 ≤ hi.getD n ∧ hi.getD n ≤ mx.getD n ∧ mx.getD n ≤ n ∧ (mx.isSome → hi.isSome) then
      some (.slice a (if mx.getD n = lo.getD 0 then off else off + (lo.getD 0).toNat * e) (hi.getD n - lo.getD 0).toNat (.ex (mx.getD n - lo.getD 0).toNat)) else none
  | _ => none
def optInt (x : Option LV) : Option (Option Int) :=
  match x with
  | none => some none
  | some v => (intL v).map some
/-- How many elements are known to be room behind a slice's beginning. -/
def limL (x : LV) (g : LHeap) : Nat :=
  match x with
  | .slice a off _ (.op e) => match g.get a with
    | some (.cells vs .op) => (vs.length - off) / e
    | _ => 0
  | _ => 0
def cutT (P : Program) (t : TypeId) (x : LV) (lo hi mx : Option LV) (lim : Nat) : Option LV :=
  match optInt lo, optInt hi, optInt mx with
  | some lo, some hi, some mx =>
    match P.underlying t with
    | some .string => if mx.isSome then none else cutStrL x lo hi
    | some (.slice e) => match sizeL P e with
      | some z => if z = 0 then none else cutL z x lo hi mx lim
      | none => none
    | some (.array n e) => match sizeL P e with
      | some z => cutArrL n z x lo hi mx
      | none => none
    | _ => none
  | _, _, _ => none

/-- What a pure operation of the model yields, where that is a number, a bool or a text. -/
def ofPure : Sem Value → Option LV
  | .pure (.int k n) => some (.int k n)
  | .pure (.bool b) => some (.bool b)
  | .pure (.string s) => some (.str s.data.toList)
  | _ => none

/-! ### Equality -/
mutual
def eqTy (P : Program) : Nat → TypeId → LV → LV → Option Bool
  | 0, _, _, _ => none
  | d + 1, t, x, y =>
    match P.underlying t, x, y with
    | some .bool, .bool a, .bool b => some (a == b)
    | some (.int _), .int k a, .int k' b => if k = k' then some (a == b) else none
    | some .string, .str a, .str b => some (a == b)
    | some (.pointer _), .nilp, .nilp => some true
    | some (.pointer _), .nilp, .ptr _ _ => some false
    | some (.pointer _), .ptr _ _, .nilp => some false
    | some (.interface _), .nili, .nili => some true
    | some (.interface _), .nili, .iface _ _ => some false
    | some (.interface _), .iface _ _, .nili => some false
    | some (.interface _), .iface tx vx, .iface ty vy =>
      if tx ≠ ty then some false else
      match P.info? tx with
      | some i => if i.comparable then eqTy P d tx vx vy else none
      | none => none
    | some (.struct fields), .agg xs, .agg ys => if P.stoodInHeld t then none else eqFields P d fields.toList xs ys
    | some (.array len e), .agg xs, .agg ys =>
      match aggN P e, sizeL P e with
      | some n, some z => eqElems P d e n z xs ys (List.range len)
      | _, _ => none
    | some (.slice _), .nils, .nils => some true
    | some (.slice _), .nils, .slice _ _ _ _ => some false
    | some (.slice _), .nils, .tail _ _ _ _ _ => some false
    | some (.slice _), .slice _ _ _ _, .nils => some false
    | some (.slice _), .tail _ _ _ _ _, .nils => some false
    | some (.map _ _), .nilm, .nilm => some true
    | some (.map _ _), .nilm, .map _ => some false
    | some (.map _ _), .map _, .nilm => some false
    | some (.func _ _ _), .nilf, .nilf => some true
    | some (.func _ _ _), .nilf, .func _ _ _ => some false
    | some (.func _ _ _), .func _ _ _, .nilf => some false
    | _, _, _ => none
def eqFields (P : Program) : Nat → List Field → List LV → List LV → Option Bool
  | 0, _, _, _ => none
  | _ + 1, [], _, _ => some true
  | d + 1, f :: fs, xs, ys =>
    if f.name = "_" then eqFields P d fs xs ys else
    match aggN P f.type with
    | some n => match partL n xs f.offset, partL n ys f.offset with
      | some a, some b => match eqTy P d f.type a b with
        | some true => eqFields P d fs xs ys
        | some false => some false
        | none => none
      | _, _ => none
    | none => none
def eqElems (P : Program) : Nat → TypeId → Option Nat → Nat → List LV → List LV → List Nat → Option Bool
  | 0, _, _, _, _, _, _ => none
  | _ + 1, _, _, _, _, _, [] => some true
  | d + 1, e, n, z, xs, ys, i :: is =>
    match partL n xs (i * z), partL n ys (i * z) with
    | some a, some b => match eqTy P d e a b with
      | some true => eqElems P d e n z xs ys is
      | some false => some false
      | none => none
    | _, _ => none
end
/-- lit: one of the two is written out. -/
def eqL (P : Program) (t : TypeId) (lit : Bool) (x y : LV) : Option Bool :=
  match x, y with
  | .agg _, .agg _ => if P.eqGuardType P.depth t then none else eqTy P 60 t x y
  | .nili, .nili => if lit then eqTy P 60 t x y else none
  | _, _ => eqTy P 60 t x y
def strBin (op : BinOp) (a b : List UInt8) : Option LV :=
  match op with
  | .add => if ((a.length + b.length : Nat) : Int) > IntKind.i64.max then none else some (.str (a ++ b))
  | .eql => some (.bool (a == b))
  | .neq => some (.bool !(a == b))
  | .lss => some (.bool (Op.bytesLess a b))
  | .leq => some (.bool (Op.bytesLess a b || a == b))
  | .gtr => some (.bool !(Op.bytesLess a b || a == b))
  | .geq => some (.bool !(Op.bytesLess a b))
  | _ => none
def isConstO : Operand → Bool
  | .const _ => true
  | _ => false
def binL (P : Program) (op : BinOp) (t : TypeId) (lit : Bool) (x y : LV) : Option LV :=
  match x, y with
  | .int k a, .int k' b => ofPure (binOp op t (.int k a) (.int k' b))
  | .str a, .str b => strBin op a b
  | x, y =>
    match op with
    | .eql => (eqL P t lit x y).map .bool
    | .neq => (eqL P t lit x y).map fun b => .bool !b
    | _ => none
def unL (op : UnOp) (x : LV) : Option LV :=
  match x with
  | .int k n => ofPure (Op.unary op (.int k n))
  | .bool b => ofPure (Op.unary op (.bool b))
  | _ => none

/-! ### Maps -/
def findL (P : Program) (t : TypeId) (k : LV) : List (LV × LV × Nat) → Nat → Option (Option (Nat × LV))
  | [], _ => some none
  | e :: es, i =>
    match eqTy P 60 t k e.1 with
    | some true => some (some (i, e.2.1))
    | some false => findL P t k es (i + 1)
    | none => none
/-- The very same key. -/
def same1 : LV → LV → Bool
  | .bool a, .bool b => a == b
  | .int j a, .int k b => j == k && a == b
  | .str a, .str b => a == b
  | _, _ => false
def sames : List LV → List LV → Bool
  | [], [] => true
  | x :: xs, y :: ys => same1 x y && sames xs ys
  | _, _ => false
def sameL : LV → LV → Bool
  | .agg a, .agg b => sames a b
  | a, b => same1 a b
def checkKeyL (P : Program) : Nat → TypeId → LV → Bool
  | 0, _, _ => false
  | d + 1, t, v =>
    match P.underlying t, v with
    | some .bool, .bool _ | some (.int _), .int _ _ | some .string, .str _ => true
    | some (.struct fs), .agg cs => fs.all fun f => match aggN P f.type with
      | some n => match partL n cs f.offset with
        | some x => checkKeyL P d f.type x
        | none => false
      | none => false
    | some (.array len e), .agg cs =>
      match aggN P e, sizeL P e with
      | some n, some z => (List.range len).all fun i => match partL n cs (i * z) with
        | some x => checkKeyL P d e x
        | none => false
      | _, _ => false
    | _, _ => false
def lookupL (P : Program) (t : TypeId) (x k : LV) (commaOk : Bool) (g : LHeap) : Option LV :=
  match mapShape P t with
  | some (kt, et) =>
    if checkKeyL P 60 kt k then
      let es : Option (List (LV × LV × Nat)) := match x with
        | .nilm => some []
        | .map a => match g.get a with
          | some (.map es _ _) => some es
          | _ => none
        | _ => none
      match es with
      | some es =>
        match findL P kt k es 0 with
        | some (some (_, v)) => some (if commaOk then .tuple [v, .bool true] else v)
        | some none => match zeroL P et with
          | some z => some (if commaOk then .tuple [z, .bool false] else z)
          | none => none
        | none => none
      | none => none
    else none
  | none => none
def setAt (es : List (LV × LV × Nat)) (i : Nat) (k v : LV) : Option (List (LV × LV × Nat)) :=
  match es[i]? with
  | some e => if sameL e.1 k then some (es.set i (k, v, e.2.2)) else none
  | none => none
def mapSetL (P : Program) (t : TypeId) (x k v : LV) (g : LHeap) : Option LHeap :=
  match mapShape P t, x with
  | some (kt, _), .map a =>
    match g.get a with
    | some (.map es clock own) =>
      if own ≠ .ro ∧ checkKeyL P 60 kt k = true then
        match findL P kt k es 0 with
        | some (some (i, _)) => (setAt es i k v).map fun es' => g.set a (.map es' clock own)
        | some none => some (g.set a (.map (es ++ [(k, v, clock)]) (clock + 1) own))
        | none => none
      else none
    | _ => none
  | _, _ => none
def mapEntryL (P : Program) (t : TypeId) (x k : LV) (g : LHeap) : Option (LV × LHeap) :=
  match mapShape P t, x with
  | some (kt, et), .map a =>
    match g.get a with
    | some (.map es clock own) =>
      if own ≠ .ro ∧ checkKeyL P 60 kt k = true then
        match findL P kt k es 0 with
        | some (some (i, v)) => match es[i]? with
          | some e => (setAt es i k v).map fun es' => (.tuple [v, .int .i64 e.2.2], g.set a (.map es' clock own))
          | none => none
        | some none => match zeroL P et with
          | some z => some (.tuple [z, .int .i64 clock], g.set a (.map (es ++ [(k, z, clock)]) (clock + 1) own))
          | none => none
        | none => none
      else none
    | _ => none
  | _, _ => none
def entryStoreL (x s v : LV) (g : LHeap) : Option LHeap :=
  match x, s with
  | .map a, .int _ n =>
    match g.get a with
    | some (.map es clock own) =>
      if own ≠ .ro then
        match es.findIdx? (fun e => ((e.2.2 : Nat) : Int) == n) with
        | some i => match es[i]? with
          | some e => some (g.set a (.map (es.set i (e.1, v, e.2.2)) clock own))
          | none => none
        | none => none
      else none
    | _ => none
  | _, _ => none
def deleteL (P : Program) (t : TypeId) (x k : LV) (g : LHeap) : Option LHeap :=
  match mapShape P t with
  | some (kt, _) =>
    if checkKeyL P 60 kt k then
      match x with
      | .nilm => some g
      | .map a =>
        match g.get a with
        | some (.map es clock own) =>
          if own ≠ .ro then
            match findL P kt k es 0 with
            | some (some (i, _)) => some (g.set a (.map (es.eraseIdx i) clock own))
            | some none => some g
            | none => none
          else none
        | _ => none
      | _ => none
    else none
  | none => none

/-! ### Slices that grow -/
def srcCells (e : Nat) (x : LV) (g : LHeap) : Option (Nat × List LV) :=
  match x with
  | .nils => some (0, [])
  | .tail _ _ _ _ _ => some (0, [])
  | .slice a off len _ =>
    match g.get a with
    | some (.cells vs _) => if off + len * e ≤ vs.length then some (len, (vs.drop off).take (len * e)) else none
    | _ => none
  | .str s => some (s.length, s.map fun b => .int .u8 b.toNat)
  | _ => none
def LV.isStr : LV → Bool
  | .str _ => true
  | _ => false
/-- bytes: of an element, by Go's own sizes -/
def appendL (e bytes : Nat) (s x : LV) (g : LHeap) : Option (LV × LHeap) :=
  match srcCells e x g, srcCells e s g with
  | some (n, new), some (sl, old) =>
    if s.isStr then none else
    if n = 0 then some (s, g) else
    if ¬ ((sl + n) * bytes * 2 ≤ 2 ^ 48 ∨ ((sl + n) * 5 + 2048) * bytes ≤ 2 ^ 50) then none else
    match s with
    | .slice a off len cap =>
      match g.get a with
      | some (.cells vs own) =>
        match cap with
        | .ex c =>
          if len + n ≤ c then
            match storeCellsL a (off + len * e) new g with
            | some g' => some (.slice a off (len + n) (.ex c), g')
            | none => none
          else some (.slice g.next 0 (len + n) (.op e), g.alloc (.cells (old ++ new) .op))
        | .op e' =>
          if e' ≠ e ∨ own ≠ .op then none else
          if off + (len + n) * e ≤ vs.length then
            match storeCellsL a (off + len * e) new g with
            | some g' => some (.slice a off (len + n) (.op e), g')
            | none => none
          else some (.slice g.next 0 (len + n) (.op e), (g.erase a).alloc (.cells (old ++ new) .op))
      | _ => none
    | .tail a _ _ e' z =>
      if z then some (.slice g.next 0 n (.op e), g.alloc (.cells new .op)) else
      match g.get a with
      | some (.cells _ own) =>
        if e' ≠ e ∨ own ≠ .op then none else some (.slice g.next 0 n (.op e), (g.erase a).alloc (.cells new .op))
      | _ => none
    | .nils => some (.slice g.next 0 n (.op e), g.alloc (.cells new .op))
    | _ => none
  | _, _ => none
def appendT (P : Program) (ts : List TypeId) (args : List LV) (g : LHeap) : Option (LV × LHeap) :=
  match ts, args with
  | [t, t2], [s, x] =>
    match sliceElem P t, P.underlying t2 with
    | some et, some d => match P.info? et, d with
      | some _, .int _ => none
      | some i, _ => match i.zero with
        | some z => if i.size = 0 ∨ i.bytes = 0 ∨ z.cells.size ≠ i.size ∨ (x.isStr = true ∧ i.size ≠ 1) then none else appendL i.size i.bytes s x g
        | none => none
      | none, _ => none
    | _, _ => none
  | _, _ => none
def copyL (e : Nat) (d x : LV) (g : LHeap) : Option (LV × LHeap) :=
  match srcCells e x g with
  | some (n, new) =>
    match d with
    | .nils => some (.int .i64 0, g)
    | .tail _ _ _ _ _ => some (.int .i64 0, g)
    | .slice a off len _ =>
      match storeCellsL a off (new.take (min n len * e)) g with
      | some g' => some (.int .i64 (min n len : Nat), g')
      | none => none
    | _ => none
  | none => none
def copyT (P : Program) (ts : List TypeId) (args : List LV) (g : LHeap) : Option (LV × LHeap) :=
  match ts, args with
  | t :: _, [d, x] =>
    match sliceElem P t with
    | some et => match sizeL P et with
      | some e => if e = 0 ∨ (x.isStr = true ∧ e ≠ 1) then none else copyL e d x g
      | none => none
    | none => none
  | _, _ => none
def lenL (P : Program) (t : TypeId) (x : LV) (g : LHeap) : Option LV :=
  match P.underlying t, x with
  | some .string, .str s => some (.int .i64 s.length)
  | some (.array n _), _ => some (.int .i64 n)
  | some (.pointer a), _ => match P.underlying a with
    | some (.array n _) => some (.int .i64 n)
    | _ => none
  | some (.slice _), .nils => some (.int .i64 0)
  | some (.slice _), .tail _ _ _ _ _ => some (.int .i64 0)
  | some (.slice _), .slice _ _ len _ => some (.int .i64 len)
  | some (.map _ _), .nilm => some (.int .i64 0)
  | some (.map _ _), .map a => match g.get a with
    | some (.map es _ _) => some (.int .i64 es.length)
    | _ => none
  | _, _ => none
def clearL (P : Program) (t : TypeId) (x : LV) (g : LHeap) : Option LHeap :=
  match P.underlying t, x with
  | some _, .nilm => some g
  | some _, .nils => some g
  | some _, .tail _ _ _ _ _ => some g
  | some _, .map a => match g.get a with
    | some (.map _ clock own) => if own ≠ .ro then some (g.set a (.map [] clock own)) else none
    | _ => none
  | some (.slice e), .slice a off len _ =>
    match zeroL P e with
    | some z => if len = 0 then some g else storeCellsL a off (List.replicate len z.cells).flatten g
    | none => none
  | _, _ => none
def max2L : LV → LV → Option LV
  | .int k x, .int _ y => some (.int k (if y > x then y else x))
  | _, _ => none
def min2L : LV → LV → Option LV
  | .int k x, .int _ y => some (.int k (if y < x then y else x))
  | _, _ => none
def foldL (f : LV → LV → Option LV) : List LV → Option LV
  | [] => none
  | x :: xs => xs.foldlM f x
def builtinL (P : Program) (b : Builtin) (ts : List TypeId) (args : List LV) (g : LHeap) : Option (LV × LHeap) :=
  match b with
  | .append => appendT P ts args g
  | .copy => copyT P ts args g
  | .len => match ts, args with
    | t :: _, x :: _ => (lenL P t x g).map fun v => (v, g)
    | _, _ => none
  | .delete => match ts, args with
    | t :: _, [x, k] => (deleteL P t x k g).map fun g => (undefL, g)
    | _, _ => none
  | .clear => match ts, args with
    | t :: _, [x] => (clearL P t x g).map fun g => (undefL, g)
    | _, _ => none
  | .max => (foldL max2L args).map fun v => (v, g)
  | .min => (foldL min2L args).map fun v => (v, g)
  | _ => none

/-! ### What is made -/
def fillL (place : Nat → Option (Nat × Nat)) (cells : List LV) : List (Nat × LV) → Option (List LV)
  | [] => some cells
  | (i, v) :: rest =>
    match place i with
    | none => none
    | some (off, size) => if v.cells.length ≠ size ∨ off + size > cells.length then none else fillL place (splice cells off v.cells) rest
def structPlaces (P : Program) (fs : List Field) : Option (List (Nat × Nat)) :=
  fs.mapM fun f => (sizeL P f.type).map fun z => (f.offset, z)
def buildL (P : Program) (t : TypeId) (parts : List (Nat × LV)) : Option LV :=
  match zeroL P t, P.underlying t with
  | some z, some (.struct fs) =>
    match structPlaces P fs.toList with
    | some places => (fillL (places[·]?) z.cells parts).map .agg
    | none => none
  | some z, some (.array _ e) =>
    match sizeL P e with
    | some n => (fillL (fun i => some (i * n, n)) z.cells parts).map .agg
    | none => none
  | _, _ => none
def buildSliceL (P : Program) (t : TypeId) (len : Nat) (parts : List (Nat × LV)) (g : LHeap) : Option (LV × LHeap) :=
  match sliceElem P t with
  | some e =>
    match sizeL P e, zeroL P e with
    | some n, some z =>
      if len * n > 2 ^ 24 ∨ z.cells.length ≠ n then none else
      match fillL (fun i => some (i * n, n)) (List.replicate len z.cells).flatten parts with
      | some cells => if cells.all LV.cell then some (.slice g.next 0 len (.ex len), g.alloc (.cells cells .ex)) else none
      | none => none
    | _, _ => none
  | none => none
def makeSliceL (P : Program) (t : TypeId) (l c : LV) (g : LHeap) : Option (LV × LHeap) :=
  match sliceElem P t, l, c with
  | some e, .int _ l, .int _ c =>
    match P.info? e with
    | some i => match i.zero with
      | some z => match ofV 6 z with
        | some z =>
          if 0 ≤ l ∧ l ≤ c ∧ i.bytes * c ≤ 2 ^ 48 ∧ c < 2 ^ 62 ∧ z.cells.length = i.size ∧ z.cellsOK = true then
            some (.slice g.next 0 l.toNat (.ex c.toNat), g.alloc (.cells (List.replicate c.toNat z.cells).flatten .ex))
          else none
        | none => none
      | none => none
    | none => none
  | _, _, _ => none
def convL (P : Program) (src dst : TypeId) (x : LV) (g : LHeap) : Option (LV × LHeap) :=
  match P.underlying src, P.underlying dst with
  | some _, some (.int k) => match x with
    | .int _ n => some (.int k (k.wrap n), g)
    | _ => none
  | some .string, some (.slice e) => match P.underlying e, x with
    | some (.int .u8), .str s => if s.length < 2 ^ 62 then some (.slice g.next 0 s.length (.op 1), g.alloc (.cells (s.map fun b => .int .u8 b.toNat) .op)) else none
    | _, _ => none
  | some (.slice e), some .string => match P.underlying e with
    | some (.int .u8) => match x with
      | .nils => some (.str [], g)
      | .tail _ _ _ _ _ => some (.str [], g)
      | .slice a off len _ => match g.get a with
        | some (.cells vs _) =>
          if off + len ≤ vs.length then
            (((vs.drop off).take len).mapM fun (c : LV) => match c with | .int .u8 n => some (UInt8.ofNat n.toNat) | _ => none).map fun s => (.str s, g)
          else none
        | _ => none
      | _ => none
    | _ => none
  | some .string, some .string => match x with
    | .str s => some (.str s, g)
    | _ => none
  | some (.slice _), some (.slice e) => match P.underlying e, x with
    | some (.int .u8), .slice a _ _ _ => match g.get a with
      | some (.cells vs own) => if src = dst ∧ own ≠ .ro then some (x, g.set a (.cells vs .ro)) else none
      | _ => none
    | _, _ => none
  | _, _ => none
def ifaceL (P : Program) (t : TypeId) (x : LV) : Option LV :=
  match P.underlying t with
  | some (.interface _) => none
  | some _ => some (.iface t x)
  | none => none
def assertL (P : Program) (x : LV) (asserted : TypeId) (commaOk : Bool) : Option LV :=
  match P.underlying asserted, x with
  | some (.interface _), _ => none
  | some _, .nili => if commaOk then (zeroL P asserted).map fun z => .tuple [z, .bool false] else none
  | some _, .iface t v =>
    if t = asserted then some (if commaOk then .tuple [v, .bool true] else v)
    else if commaOk then (zeroL P asserted).map fun z => .tuple [z, .bool false] else none
  | _, _ => none
def extractL (x : LV) (i : Nat) : Option LV :=
  match x with
  | .tuple vs => vs[i]?
  | _ => none
def rangeL (P : Program) (t : TypeId) (x : LV) (g : LHeap) : Option (LV × LHeap) :=
  match P.underlying t, x with
  | some .string, .str s => some (.ptr g.next 0, g.alloc (.strIter s 0))
  | some (.map _ _), .nilm => some (.ptr g.next 0, g.alloc (.mapIter none 0 [] 0))
  | some (.map _ _), .map a => match g.get a with
    | some (.map _ clock _) => some (.ptr g.next 0, g.alloc (.mapIter (some a) clock [] clock))
    | _ => none
  | _, _ => none
def nextStrL (it : LV) (g : LHeap) : Option (LV × LHeap) :=
  match it with
  | .ptr r 0 => match g.get r with
    | some (.strIter s pos) =>
      if pos < s.length then
        some (.tuple [.bool true, .int .i64 pos, .int .i32 (Utf8.decode ⟨s.toArray⟩ pos).1], g.set r (.strIter s (pos + (Utf8.decode ⟨s.toArray⟩ pos).2)))
      else some (.tuple [.bool false], g)
    | _ => none
  | _ => none
def entryL (it : LV) (g : LHeap) : Option LV :=
  match it with
  | .ptr r 0 => match g.get r with
    | some (.mapIter (some m) _ seen stepped) => match seen.getLast?, g.get m with
      | some stamp, some (.map es clock _) =>
        if clock = stepped then
          match es.find? (fun e => e.2.2 == stamp) with
          | some e => some (.tuple [e.1, e.2.1])
          | none => none
        else none
      | _, _ => none
    | _ => none
  | _ => none
/-- A map's next entry: whichever of those that are left. -/
def nextMapL (it : LV) (g : LHeap) (K : LV → LHeap → Prop) : Prop :=
  match it with
  | .ptr r 0 => match g.get r with
    | some (.mapIter none _ _ _) => K (.tuple [.bool false]) g
    | some (.mapIter (some m) since seen last) => match g.get m with
      | some (.map es clock _) =>
        (!seen.isEmpty && !es.isEmpty && es.all (fun e => decide (e.2.2 ≥ last))) = false ∧
        ((es.filter fun e => !seen.contains e.2.2).filter (fun e => decide (e.2.2 < since)) = [] → K (.tuple [.bool false]) g) ∧
        ∀ e ∈ es, seen.contains e.2.2 = false → K (.tuple [.bool true, e.1, e.2.1]) (g.set r (.mapIter (some m) since (seen ++ [e.2.2]) clock))
      | _ => False
    | _ => False
  | _ => False

/-! ### Operations -/
def vK (o : Option LV) (K : LV → Prop) : Prop :=
  match o with
  | some v => K v
  | none => False
def gK (o : Option LHeap) (K : LHeap → Prop) : Prop :=
  match o with
  | some g => K g
  | none => False
def oK (o : Option (LV × LHeap)) (K : LV → LHeap → Prop) : Prop :=
  match o with
  | some r => K r.1 r.2
  | none => False
@[simp] theorem vK_some (v : LV) (K : LV → Prop) : vK (some v) K = K v := rfl
@[simp] theorem vK_none (K : LV → Prop) : vK none K = False := rfl
@[simp] theorem gK_some (v : LHeap) (K : LHeap → Prop) : gK (some v) K = K v := rfl
@[simp] theorem gK_none (K : LHeap → Prop) : gK none K = False := rfl
@[simp] theorem oK_some (v : LV) (g : LHeap) (K : LV → LHeap → Prop) : oK (some (v, g)) K = K v g := rfl
@[simp] theorem oK_none (K : LV → LHeap → Prop) : oK none K = False := rfl

abbrev CallSem := FuncId → List LV → LHeap → (LV → LHeap → Prop) → Prop
/-- The first place of a byte, or -1. -/
def idxB (c : UInt8) : List UInt8 → Nat → Int
  | [], _ => -1
  | b :: l, n => if b == c then n else idxB c l (n + 1)
/-- A function that has no body in the program: what it yields. -/
def extL (P : Program) (f : FuncId) (args : List LV) : Option LV :=
  match P.funcs[f]? with
  | some fn =>
    match fn.body with
    | some _ => none
    | none =>
      if fn.origin = "" then
        match args with
        | [.str s, .int .u8 c] =>
          if fn.name = "internal/bytealg.IndexByteString" then some (.int .i64 (idxB c.toNat.toUInt8 s 0))
          else if fn.name = "internal/bytealg.CountString" then some (.int .i64 (s.count c.toNat.toUInt8 : Nat))
          else none
        | _ => none
      else none
  | none => none
/-- The fence that lets all in; the frame is a round's, or none. -/
abbrev wideR (r : Option Nat) : Fence := { fn := fun _ => True, depth := none, alive := false, round := r }
/-- A round of the loop whose record is a: it yields some v in some heap for which K holds. -/
def Round (P : Program) (a : Nat) (args : List LV) (g : LHeap) (K : LV → LHeap → Prop) : Prop :=
  ∀ W keep ρ w, Rel W keep ρ g w → oks ρ g.next args → a < g.next →
    ∃ f tmps assign body, (Instr.yield (ρ.blk a) (toVs ρ args).toArray).run P w = .ok (.round (ρ.blk a) f tmps assign body) w ∧
      RoundIn Fence.wide 0 P (ρ.blk a) f tmps assign body w fun e w' => ∃ v g' ρ', e = .returned (v.toV ρ') ∧ Post W keep ρ g v g' ρ' w' ∧ K v g'
theorem Round.mono {P : Program} {a : Nat} {args : List LV} {g : LHeap} {K K' : LV → LHeap → Prop} (h : Round P a args g K) (hK : ∀ v g', K v g' → K' v g') : Round P a args g K' :=
  fun W keep ρ w hr ha hl => by
    obtain ⟨f, tmps, assign, body, h1, h2⟩ := h W keep ρ w hr ha hl
    exact ⟨f, tmps, assign, body, h1, h2.mono fun _ _ ⟨v, g', ρ', e1, e2, e3⟩ => ⟨v, g', ρ', e1, e2, hK _ _ e3⟩⟩
/-- A function value is called. -/
def callV (P : Program) (C : CallSem) (f : LV) (args : List LV) (g : LHeap) (K : LV → LHeap → Prop) : Prop :=
  match f with
  | .func (.func f) first caps =>
    match extL P f (first ++ args ++ caps) with
    | some v => K v g
    | none => C f (first ++ args ++ caps) g K
  | .func (.method name) (.iface t v :: first) _ => match methodL P t name with
    | some f => C f (v :: (first ++ args)) g K
    | none => False
  | .yield a => Round P a args g K
  | _ => False
def opL (P : Program) (C : CallSem) (tm : Nat → LV) (o : Oper) (g : LHeap) (K : LV → LHeap → Prop) : Prop :=
  match o.op with
  | .move x | .assign x => K (evL tm x) g
  | .pick c a b => vK (pickL (evL tm c) (evL tm a) (evL tm b)) fun v => K v g
  | .alloc t => vK (zeroL P t) fun z => oK (newL z g) K
  | .box _ x => oK (newL (evL tm x) g) K
  | .build t parts => vK (buildL P t (parts.toList.map fun p => (p.1, evL tm p.2))) fun v => K v g
  | .buildSlice t len parts => oK (buildSliceL P t len (parts.toList.map fun p => (p.1, evL tm p.2)) g) K
  | .load t a => vK (loadT P t (evL tm a) g) fun v => K v g
  | .store t a x => gK (storeT P t (evL tm a) (evL tm x) g) fun g => K undefL g
  | .nilCheck x => vK (nilCheckP P (evL tm x)) fun v => K v g
  | .binOp op t x y _ => vK (binL P op t (isConstO x || isConstO y) (evL tm x) (evL tm y)) fun v => K v g
  | .unOp op _ x => vK (unL op (evL tm x)) fun v => K v g
  | .convert s d x => oK (convL P s d (evL tm x) g) K
  | .makeInterface t x => vK (ifaceL P t (evL tm x)) fun v => K v g
  | .makeFunc fn first caps => K (.func fn (first.toList.map (evL tm)) (caps.toList.map (evL tm))) g
  | .makeMap _ none => K (.map g.next) (g.alloc (.map [] 0 .ex))
  | .makeSlice t l c => oK (makeSliceL P t (evL tm l) (evL tm c) g) K
  | .slice t x lo hi mx => vK (cutT P t (evL tm x) (lo.map (evL tm)) (hi.map (evL tm)) (mx.map (evL tm)) (limL (evL tm x) g)) fun v => K v g
  | .fieldAddr s x f => vK (fieldAddrT P s f (evL tm x)) fun v => K v g
  | .field s x f => vK (fieldVT P s f (evL tm x)) fun v => K v g
  | .indexAddr t x ix => vK (ixAddrT P t (evL tm x) (evL tm ix)) fun v => K v g
  | .index t x ix => vK (indexT P t (evL tm x) (evL tm ix)) fun v => K v g
  | .lookup t x k ok => vK (lookupL P t (evL tm x) (evL tm k) ok g) fun v => K v g
  | .mapUpdate t m k x | .insert t m k x => gK (mapSetL P t (evL tm m) (evL tm k) (evL tm x) g) fun g => K undefL g
  | .mapEntry t m k => oK (mapEntryL P t (evL tm m) (evL tm k) g) K
  | .entryStore _ m s x => gK (entryStoreL (evL tm m) (evL tm s) (evL tm x) g) fun g => K undefL g
  | .range t x => oK (rangeL P t (evL tm x) g) K
  | .next it true => oK (nextStrL (evL tm it) g) K
  | .next it false => nextMapL (evL tm it) g K
  | .entry it => vK (entryL (evL tm it) g) fun v => K v g
  | .typeAssert x _ t ok => vK (assertL P (evL tm x) t ok) fun v => K v g
  | .extract x i => vK (extractL (evL tm x) i) fun v => K v g
  | .call c =>
    match c.callee with
    | .builtin b => oK (builtinL P b c.argTypes.toList (c.args.toList.map (evL tm)) g) K
    | .value f => callV P C (evL tm f) (c.args.toList.map (evL tm)) g K
    | .invoke r name =>
      match evL tm r with
      | .iface t v => match methodL P t name with
        | some f => C f (v :: c.args.toList.map (evL tm)) g K
        | none => False
      | _ => False
  | _ => False

def yieldedL (ops : Array Oper) (tm : Nat → LV) (j : Nat) : Option Bool :=
  match (ops[j]?).bind (·.dst) with
  | some d => match tm d with
    | .bool b => some b
    | _ => none
  | none => none
/-- An operation in its region: it is left out where its guard says so. -/
def stepL (P : Program) (C : CallSem) (ops : Array Oper) (o : Oper) (st : LSt) (K : LSt → Prop) : Prop :=
  match o.guard with
  | none => opL P C st.tm o st.g fun v g => K ⟨putL st.tm o.dst v, g⟩
  | some (j, want) =>
    match (ops[j]?).bind (·.dst) with
    | none => False
    | some d =>
      match st.tm d with
      | .bool true => if want then opL P C (putL st.tm (some d) (.bool true)) o st.g fun v g => K ⟨putL (putL st.tm (some d) (.bool true)) o.dst v, g⟩
        else K ⟨putL (putL st.tm (some d) (.bool true)) o.dst undefL, st.g⟩
      | .bool false => if want then K ⟨putL (putL st.tm (some d) (.bool false)) o.dst undefL, st.g⟩
        else opL P C (putL st.tm (some d) (.bool false)) o st.g fun v g => K ⟨putL (putL st.tm (some d) (.bool false)) o.dst v, g⟩
      | .tuple [] => K ⟨putL st.tm o.dst undefL, st.g⟩
      | _ => False
def runL (P : Program) (C : CallSem) (ops : Array Oper) : List Oper → LSt → (LSt → Prop) → Prop
  | [], st, K => K st
  | o :: rest, st, K => stepL P C ops o st fun st' => runL P C ops rest st' K

/-- How a piece of code is left. -/
inductive LEx where
  | normal
  | exit (id : Nat)
  | ret
  deriving DecidableEq

/-- A loop: something that holds at each round's head, and a number that falls. -/
def loopL (body : LSt → (LEx → LSt → Prop) → Prop) (st : LSt) (K : LEx → LSt → Prop) : Prop :=
  ∃ (I : LSt → Prop) (μ : LSt → Nat), I st ∧ ∀ s, I s → body s fun e s' => match e with
    | .normal => I s' ∧ μ s' < μ s
    | e => K e s'

end Go.Lm

/-
  The logical machine, part D: each operation of the model does what the logical machine says.
-/
namespace Go.Lm

variable {P : Program} {W : World} {keep : Nat → Prop} {ρ : Ren} {g : LHeap} {w : World}

theorem Post.same {v : LV} (h : Rel W keep ρ g w) (hv : v.ok ρ g.next) : Post W keep ρ g v g ρ w := ⟨Ren.Ext.refl _ _, h, hv, Nat.le_refl _⟩

/-- a run that yields v and leaves the world alone -/
def Yields1 (P : Program) (ρ : Ren) (n : Nat) (w : World) (s : Sem Value) (v : LV) : Prop := s.run P w = .ok (v.toV ρ) w ∧ v.ok ρ n
/-- a run that yields v, in the heap g' -/
def Makes (P : Program) (W : World) (keep : Nat → Prop) (ρ : Ren) (g : LHeap) (w : World) (s : Sem Value) (v : LV) (g' : LHeap) : Prop :=
  ∃ ρ' w', s.run P w = .ok (v.toV ρ') w' ∧ Post W keep ρ g v g' ρ' w'
/-- a run that turns the heap to g' -/
def Turns (P : Program) (W : World) (keep : Nat → Prop) (ρ : Ren) (g : LHeap) (w : World) (s : Sem Unit) (g' : LHeap) : Prop :=
  ∃ w', s.run P w = .ok () w' ∧ Rel W keep ρ g' w' ∧ g'.next = g.next

/-! ### Types -/
theorem aggN_spec {t : TypeId} {n : Option Nat} (h : aggN P t = some n) : ∃ d i, P.underlying t = some d ∧ P.info? t = some i ∧ n = if isAggD d then some i.size else none := by
  unfold aggN at h
  split at h
  · rename_i d i h1 h2
    exact ⟨d, i, h1, h2, (Option.some.inj h).symm⟩
  · cases h
theorem sizeL_spec {t : TypeId} {n : Nat} (h : sizeL P t = some n) : ∃ i, P.info? t = some i ∧ i.size = n := by
  unfold sizeL at h
  obtain ⟨i, h1, h2⟩ := Option.map_eq_some_iff.1 h
  exact ⟨i, h1, h2⟩
theorem run_sizeL {t : TypeId} {n : Nat} (h : sizeL P t = some n) (w : World) : (sizeOf t).run P w = .ok n w := by
  obtain ⟨i, h1, h2⟩ := sizeL_spec h
  rw [run_sizeOf' h1, h2]
theorem run_zeroL {t : TypeId} {z : LV} (h : zeroL P t = some z) (ρ : Ren) (n : Nat) (w : World) : (zeroValue t).run P w = .ok (z.toV ρ) w ∧ z.ok ρ n := by
  unfold zeroL at h
  split at h
  · rename_i i hi
    split at h
    · rename_i v hv
      obtain ⟨h1, h2⟩ := ofV_ok ρ n _ _ _ h
      exact ⟨by rw [run_zeroValue' hi hv, h1], h2⟩
    · cases h
  · cases h
theorem run_sliceElem {t e : TypeId} (h : sliceElem P t = some e) (w : World) : (underlying t).run P w = .ok (.slice e) w := by
  unfold sliceElem at h
  split at h
  · rename_i d hd; cases h; exact run_underlying' hd w
  · cases h
theorem run_mapShape {t k e : TypeId} (h : mapShape P t = some (k, e)) (w : World) : (underlying t).run P w = .ok (.map k e) w := by
  unfold mapShape at h
  split at h
  · rename_i d hd; cases h; exact run_underlying' hd w
  · cases h

/-! ### Loads and stores -/
theorem sim_load {t : TypeId} {x v : LV} (h : Rel W keep ρ g w) (hl : loadT P t x g = some v) : Yields1 P ρ g.next w (Instr.loadAt t (x.toV ρ)) v := by
  unfold loadT at hl
  split at hl
  · rename_i n hn
    obtain ⟨d, i, hd, hi, rfl⟩ := aggN_spec hn
    unfold loadV at hl
    split at hl
    · rename_i a off
      split at hl
      · rename_i vs own hg
        have hoks := h.oks hg
        unfold Yields1
        simp only [LV.toV, Instr.loadAt, Instr.sureAddr]
        rw [run_bind_ok (run_pure P _ w)]
        simp only [loadVar]
        rw [run_bind_ok (run_isAgg hd w)]
        by_cases hag : isAggD d = true
        · simp only [hag, if_true] at hl ⊢
          split at hl
          · rename_i hle
            cases hl
            rw [run_bind_ok (run_sizeOf' hi w), run_bind_ok (run_loadCells h hg hle)]
            refine ⟨rfl, ?_⟩
            simp only [LV.ok]
            exact (oks_iff _ _ _).2 fun v hv => (oks_iff _ _ _).1 hoks v (List.mem_of_mem_drop (List.mem_of_mem_take hv))
          · cases hl
        · simp only [hag] at hl ⊢
          simp only [Bool.false_eq_true, if_false] at hl ⊢
          exact ⟨run_load (h.cell hg hl rfl), (oks_iff _ _ _).1 hoks v (List.mem_of_getElem? hl)⟩
      · cases hl
    · cases hl
  · cases hl

theorem sim_storeCells {a off : Nat} {new : List LV} {g' : LHeap} (h : Rel W keep ρ g w) (hs : storeCellsL a off new g = some g') (hok : oks ρ g.next new) :
    Turns P W keep ρ g w (storeCells (ρ.addr a off) (toVs ρ new)) g' := by
  unfold storeCellsL at hs
  split at hs
  · rename_i vs own hg
    split at hs
    · rename_i hc
      cases hs
      obtain ⟨w', h1, h2⟩ := run_storeCells (P := P) h hg hc.1 hc.2.1 hok (fun v hv => List.all_eq_true.1 hc.2.2 v hv)
      exact ⟨w', h1, h2, rfl⟩
    · cases hs
  · cases hs
theorem sim_store {t : TypeId} {x v : LV} {g' : LHeap} (h : Rel W keep ρ g w) (hs : storeT P t x v g = some g') (hok : v.ok ρ g.next) :
    Turns P W keep ρ g w (Instr.storeAt t (x.toV ρ) (v.toV ρ)) g' := by
  unfold storeT at hs
  split at hs
  · rename_i n hn
    unfold storeV at hs
    split at hs
    · rename_i a off
      split at hs
      · rename_i hlen
        obtain ⟨w', h1, h2⟩ := sim_storeCells (P := P) h hs (LV.cells_ok hok)
        refine ⟨w', ?_, h2⟩
        simp only [LV.toV, Instr.storeAt, Instr.sureAddr]
        rw [run_bind_ok (run_pure P _ w)]
        simp only [storeVar]
        rw [run_bind_ok (run_sizeL hn w)]
        rw [LV.cells_toV]
        rw [if_neg (by simp [toVs_length, hlen])]
        exact h1
      · cases hs
    · cases hs
  · cases hs

theorem sim_new {v r : LV} {g' : LHeap} {ty : TypeId} (h : Rel W keep ρ g w) (hn : newL v g = some (r, g')) (hok : v.ok ρ g.next) :
    ∃ ρ' w', (newVar ty (v.toV ρ)).run P w = .ok (match r.toV ρ' with | .pointer (some a) => a | _ => default) w' ∧ r = .ptr g.next 0 ∧ Post W keep ρ g r g' ρ' w' := by
  unfold newL at hn
  split at hn
  · rename_i hc
    cases hn
    refine ⟨ρ.put g.next w.heap.size 0 0, { w with heap := w.heap.push (.cells (toVs ρ v.cells).toArray ty) }, ?_, rfl, Ren.put_ext _ _ _ _ _, h.newCells (LV.cells_ok hok) (fun u hu => List.all_eq_true.1 hc u hu), ?_, ?_⟩
    · unfold newVar
      rw [LV.cells_toV, run_newRow]
      simp only [LV.toV, Ren.put_addr]
    · simp [LV.ok]
    · simp
  · cases hn
theorem sim_newPtr {v r : LV} {g' : LHeap} {ty : TypeId} (h : Rel W keep ρ g w) (hn : newL v g = some (r, g')) (hok : v.ok ρ g.next) :
    Makes P W keep ρ g w (do pure (.pointer (some (← newVar ty (v.toV ρ))))) r g' := by
  obtain ⟨ρ', w', h1, h2, h3⟩ := sim_new (P := P) (ty := ty) h hn hok
  refine ⟨ρ', w', ?_, h3⟩
  rw [run_bind_ok h1]
  subst h2
  rfl
theorem sim_alloc {t : TypeId} {z r : LV} {g' : LHeap} (h : Rel W keep ρ g w) (hz : zeroL P t = some z) (hn : newL z g = some (r, g')) :
    Makes P W keep ρ g w (Instr.alloc t true (.tuple #[])) r g' := by
  obtain ⟨h1, h2⟩ := run_zeroL (P := P) hz ρ g.next w
  obtain ⟨ρ', w', h3, h4⟩ := sim_newPtr (P := P) (ty := t) h hn h2
  refine ⟨ρ', w', ?_, h4⟩
  simp only [Instr.alloc]
  rw [run_bind_ok h1]
  exact h3
theorem sim_box {t : TypeId} {v r : LV} {g' : LHeap} (h : Rel W keep ρ g w) (hn : newL v g = some (r, g')) (hok : v.ok ρ g.next) :
    Makes P W keep ρ g w (Instr.box t (v.toV ρ)) r g' := sim_newPtr (P := P) (ty := t) h hn hok

/-! ### Addresses and parts -/
theorem addr_add (ρ : Ren) (a off n : Nat) : (ρ.addr a off).add n = ρ.addr a (off + n) := by
  unfold Addr.add Ren.addr
  split
  · subst_vars; rfl
  · simp [Nat.add_assoc]
theorem sim_fieldAddr {s : TypeId} {f : Nat} {x v : LV} {n : Nat} (hx : x.ok ρ n) (hf : fieldAddrT P s f x = some v) : Yields1 P ρ n w (Instr.fieldAt s (x.toV ρ) f) v := by
  unfold fieldAddrT at hf
  split at hf
  · rename_i o ho
    unfold fieldAddrL at hf
    split at hf
    · rename_i a off
      cases hf
      unfold fieldOff fieldL at ho
      split at ho
      · rename_i fd hfd
        split at hfd
        · rename_i fs hfs
          split at ho
          · cases ho
          · rename_i m hz hm
            cases ho
            refine ⟨?_, by simpa only [LV.ok] using hx⟩
            simp only [LV.toV, Instr.fieldAt]
            rw [run_bind_ok (run_underlying' hfs w)]
            simp only [hfd]
            rw [run_bind_ok (show (Instr.sureAddr (.pointer (some (ρ.addr a off)))).run P w = .ok (ρ.addr a off) w from rfl)]
            simp only [fieldPlace]
            have : ((do if (← sizeOf fd.type) = 0 then partAt (ρ.addr a off) fd.offset fd.byteOffset else pure ((ρ.addr a off).add fd.offset) : Sem Addr)).run P w = .ok (ρ.addr a (off + fd.offset)) w := by
              rw [run_bind_ok (run_sizeL hm w), if_neg (fun e => hz e), run_pure, addr_add]
            rw [run_bind_ok this]
            rfl
          · cases ho
        · cases hfd
      · cases ho
    · cases hf
  · cases hf
theorem run_part {t : TypeId} {n : Option Nat} {cs : List LV} {off : Nat} {v : LV} {m : Nat} (hn : aggN P t = some n) (hok : oks ρ m cs) (h : partL n cs off = some v) :
    Yields1 P ρ m w (part t (toVs ρ cs).toArray off) v := by
  obtain ⟨d, i, hd, hi, rfl⟩ := aggN_spec hn
  unfold Yields1
  simp only [part]
  rw [run_bind_ok (run_isAgg hd w)]
  unfold partL at h
  by_cases hag : isAggD d = true
  · simp only [hag, if_true] at h ⊢
    cases h
    rw [run_bind_ok (run_sizeOf' hi w), run_pure]
    refine ⟨?_, ?_⟩
    · simp only [LV.toV]
      congr 2
      apply Array.ext'
      simp only [Array.toList_extract, toVs_eq, List.extract_eq_take_drop, List.map_take, List.map_drop]
      congr 1
      omega
    · simp only [LV.ok]
      exact (oks_iff _ _ _).2 fun v hv => (oks_iff _ _ _).1 hok v (List.mem_of_mem_drop (List.mem_of_mem_take hv))
  · simp only [hag, Bool.false_eq_true, if_false] at h ⊢
    simp only [List.getElem?_toArray, toVs_getElem?, h, Option.map_some]
    exact ⟨rfl, (oks_iff _ _ _).1 hok v (List.mem_of_getElem? h)⟩
theorem sim_field {s : TypeId} {f : Nat} {x v : LV} {n : Nat} (hx : x.ok ρ n) (hf : fieldVT P s f x = some v) : Yields1 P ρ n w (Instr.field s (x.toV ρ) f) v := by
  unfold fieldVT at hf
  split at hf
  · rename_i fd hfd
    split at hf
    · rename_i m hm
      unfold fieldVL at hf
      split at hf
      · rename_i cs
        unfold fieldL at hfd
        split at hfd
        · rename_i fs hfs
          obtain ⟨h1, h2⟩ := run_part (P := P) (w := w) hm (by simpa only [LV.ok] using hx) hf
          refine ⟨?_, h2⟩
          simp only [LV.toV, Instr.field]
          rw [run_bind_ok (run_underlying' hfs w)]
          simp only [hfd]
          rw [run_bind_ok (show (asAgg (.agg (toVs ρ cs).toArray)).run P w = .ok (toVs ρ cs).toArray w from rfl)]
          exact h1
        · cases hfd
      · cases hf
    · cases hf
  · cases hf
theorem run_asIntOf (k : IntKind) (i : Int) (w : World) : (asIntOf (.int k i)).run P w = .ok (k, i) w := rfl
theorem ixShape_spec {t : TypeId} {len : Option Nat} {z : Nat} (h : ixShape P t = some (len, z)) :
    ∃ e, sizeL P e = some z ∧ ((∃ n, len = some n ∧ P.underlying t = some (.array n e)) ∨ (len = none ∧ P.underlying t = some (.slice e))) := by
  unfold ixShape at h
  split at h
  · rename_i n e hd
    obtain ⟨z', h1, h2⟩ := Option.map_eq_some_iff.1 h
    cases h2
    exact ⟨e, h1, .inl ⟨n, rfl, hd⟩⟩
  · rename_i e hd
    obtain ⟨z', h1, h2⟩ := Option.map_eq_some_iff.1 h
    cases h2
    exact ⟨e, h1, .inr ⟨rfl, hd⟩⟩
  · cases h
theorem sim_indexAddr {t : TypeId} {x ix v : LV} {n : Nat} (hx : x.ok ρ n) (h : ixAddrT P t x ix = some v) : Yields1 P ρ n w (Instr.indexAt t (x.toV ρ) (ix.toV ρ)) v := by
  unfold ixAddrT at h
  split at h
  · rename_i len sz hs
    obtain ⟨e, hz, hd⟩ := ixShape_spec hs
    unfold ixAddrL at h
    split at h
    · rename_i k i
      rcases hd with ⟨m, rfl, hd⟩ | ⟨rfl, hd⟩
      · cases x with
        | ptr a off =>
          simp only at h
          split at h
          · rename_i hb
            cases h
            refine ⟨?_, by simpa only [LV.ok] using hx⟩
            simp only [LV.toV, Instr.indexAt]
            rw [run_bind_ok (run_asIntOf k i w)]
            simp only
            rw [run_bind_ok (run_underlying' hd w)]
            simp only
            rw [run_bind_ok (show (Instr.sureAddr (.pointer (some (ρ.addr a off)))).run P w = .ok (ρ.addr a off) w from rfl)]
            rw [run_bind_ok (run_pure P _ w)]
            simp only
            rw [run_bind_ok (run_underlying' hd w)]
            simp only [hb, and_self, if_true]
            rw [run_bind_ok (run_sizeL hz w), run_pure, addr_add]
          · cases h
        | _ => simp at h
      · cases x with
        | slice a off l c =>
          simp only at h
          split at h
          · rename_i hb
            cases h
            refine ⟨?_, by simp only [LV.ok] at hx ⊢; exact hx.1⟩
            have hv : ∃ cp, (LV.slice a off l c).toV ρ = .slice (some (ρ.addr a off)) l cp := by cases c <;> exact ⟨_, rfl⟩
            obtain ⟨cp, hv⟩ := hv
            rw [hv]
            simp only [LV.toV, Instr.indexAt]
            rw [run_bind_ok (run_asIntOf k i w)]
            simp only
            rw [run_bind_ok (run_underlying' hd w)]
            simp only
            rw [run_bind_ok (run_pure P _ w)]
            simp only
            rw [run_bind_ok (run_underlying' hd w)]
            simp only [hb, and_self, if_true]
            rw [run_bind_ok (run_sizeL hz w), run_pure, addr_add]
          · cases h
        | _ => simp at h
    · cases h
  · cases h
theorem sim_index {t : TypeId} {x ix v : LV} {n : Nat} (hx : x.ok ρ n) (h : indexT P t x ix = some v) : Yields1 P ρ n w (Instr.index t (x.toV ρ) (ix.toV ρ)) v := by
  unfold indexT at h
  split at h
  · rename_i hd
    unfold ixStrL at h
    split at h
    · rename_i k i s
      split at h
      · rename_i hb
        obtain ⟨b, h1, h2⟩ := Option.map_eq_some_iff.1 h
        subst h2
        refine ⟨?_, by simp [LV.ok]⟩
        simp only [LV.toV, Instr.index]
        rw [run_bind_ok (run_asIntOf k i w)]
        simp only
        rw [run_bind_ok (run_underlying' hd w)]
        have hlt : i.toNat < s.length := (List.getElem?_eq_some_iff.1 h1).1
        have : (⟨s.toArray⟩ : ByteArray)[i.toNat]? = some b := by
          have hb' : (⟨s.toArray⟩ : ByteArray)[i.toNat]? = (s.toArray)[i.toNat]? := rfl
          rw [hb']; simpa using h1
        simp only [hb, if_true, this]
        rfl
      · cases h
    · cases h
  · rename_i len e hd
    split at h
    · rename_i m sz hm hz
      unfold ixAggL at h
      split at h
      · rename_i k i cs
        split at h
        · rename_i hb
          obtain ⟨h1, h2⟩ := run_part (P := P) (w := w) hm (by simpa only [LV.ok] using hx) h
          refine ⟨?_, h2⟩
          simp only [LV.toV, Instr.index]
          rw [run_bind_ok (run_asIntOf k i w)]
          simp only
          rw [run_bind_ok (run_underlying' hd w)]
          simp only [hb, and_self, if_true]
          rw [run_bind_ok (run_sizeL hz w)]
          exact h1
        · cases h
      · cases h
    · cases h
  · cases h

end Go.Lm

/-
  The logical machine, part E: cutting slices and texts; arithmetic; equality.
-/
namespace Go.Lm

variable {P : Program} {W : World} {keep : Nat → Prop} {ρ : Ren} {g : LHeap} {w : World}

/-! ### Cutting -/
theorem run_sliceBound {v : Value} {k : IntKind} {i : Int} {y : Nat} {c : BoundsCode} (hv : v = .int k i) (h0 : 0 ≤ i) (h1 : i ≤ y) (w : World) :
    (Instr.sliceBound v y c).run P w = .ok i.toNat w := by
  subst hv
  simp only [Instr.sliceBound]
  rw [run_bind_ok (run_asIntOf k i w)]
  simp only [h0, h1, and_self, if_true]
  rfl
theorem optInt_spec {x : Option LV} {r : Option Int} (h : optInt x = some r) : (x = none ∧ r = none) ∨ ∃ k i, x = some (.int k i) ∧ r = some i := by
  unfold optInt at h
  split at h
  · cases h; exact .inl ⟨rfl, rfl⟩
  · rename_i v
    unfold intL at h
    split at h
    · rename_i k i
      simp at h; subst h; exact .inr ⟨k, i, rfl, rfl⟩
    · simp at h
theorem run_sliceBounds {b : Bool} {len cap : Nat} {lo hi mx : Option LV} {l h m : Option Int} (h1 : optInt lo = some l) (h2 : optInt hi = some h) (h3 : optInt mx = some m)
    (b0 : 0 ≤ l.getD 0) (b1 : l.getD 0 ≤ h.getD len) (b2 : h.getD len ≤ m.getD cap) (b3 : m.getD cap ≤ cap) (b4 : m.isSome = true → h.isSome = true) (w : World) :
    (Instr.sliceBounds b len cap (lo.map (LV.toV ρ)) (hi.map (LV.toV ρ)) (mx.map (LV.toV ρ))).run P w = .ok ((l.getD 0).toNat, (h.getD len).toNat, (m.getD cap).toNat) w := by
  rcases optInt_spec h1 with ⟨rfl, rfl⟩ | ⟨k1, i1, rfl, rfl⟩ <;> rcases optInt_spec h2 with ⟨rfl, rfl⟩ | ⟨k2, i2, rfl, rfl⟩ <;> rcases optInt_spec h3 with ⟨rfl, rfl⟩ | ⟨k3, i3, rfl, rfl⟩ <;>
    simp only [Option.getD_none, Option.getD_some, Option.map_none, Option.map_some, Option.isSome_some, Option.isSome_none, LV.toV] at *
  · simp only [Instr.sliceBounds]
    rw [run_bind_ok (run_pure P _ w), run_bind_ok (run_pure P _ w), run_bind_ok (run_pure P _ w)]; simp
  · exact absurd (b4 trivial) (by simp)
  · simp only [Instr.sliceBounds]
    rw [run_bind_ok (run_pure P _ w), run_bind_ok (run_sliceBound rfl (by omega) (by omega) w), run_bind_ok (run_pure P _ w)]; simp
  · simp only [Instr.sliceBounds]
    rw [run_bind_ok (run_sliceBound rfl (by omega) b3 w), run_bind_ok (run_sliceBound rfl (by omega) (by omega) w), run_bind_ok (run_pure P _ w)]; simp
  · simp only [Instr.sliceBounds]
    rw [run_bind_ok (run_pure P _ w), run_bind_ok (run_pure P _ w), run_bind_ok (run_sliceBound rfl (by omega) (by omega) w)]; simp
  · exact absurd (b4 trivial) (by simp)
  · simp only [Instr.sliceBounds]
    rw [run_bind_ok (run_pure P _ w), run_bind_ok (run_sliceBound rfl (by omega) (by omega) w), run_bind_ok (run_sliceBound rfl (by omega) (by omega) w)]; simp
  · simp only [Instr.sliceBounds]
    rw [run_bind_ok (run_sliceBound rfl (by omega) b3 w), run_bind_ok (run_sliceBound rfl (by omega) (by omega) w), run_bind_ok (run_sliceBound rfl b0 (by omega) w)]; simp

theorem div_sub {c o l e : Nat} : (c - (o + l * e)) / e = (c - o) / e - l := by
  rw [Nat.sub_add_eq, Nat.mul_comm, Nat.sub_mul_div]
theorem cap_ge {c o l e : Nat} (he : 0 < e) (h : o + l * e ≤ c) : l ≤ (c - o) / e := by
  rw [Nat.le_div_iff_mul_le he]; omega

/-- What is said to be room is room. -/
def LimOk (ρ : Ren) (x : LV) (lim : Nat) : Prop := ∀ a off len e, x = .slice a off len (.op e) → off + lim * e ≤ ρ.cap a
theorem sim_cutSlice {t et : TypeId} {lim : Nat} {z : Nat} {x v : LV} {lo hi mx : Option LV} {l h m : Option Int} {n : Nat} (hd : P.underlying t = some (.slice et)) (hz : sizeL P et = some z) (hz0 : 0 < z)
    (h1 : optInt lo = some l) (h2 : optInt hi = some h) (h3 : optInt mx = some m) (hx : x.ok ρ n) (hlim : LimOk ρ x lim) (hc : cutL z x l h m lim = some v) :
    Yields1 P ρ n w (Instr.slice t (x.toV ρ) (lo.map (LV.toV ρ)) (hi.map (LV.toV ρ)) (mx.map (LV.toV ρ))) v := by
  have key : ∀ (a : Option Addr) (len cap : Nat), 0 ≤ l.getD 0 → l.getD 0 ≤ h.getD len → h.getD len ≤ m.getD cap → m.getD cap ≤ cap → (m.isSome = true → h.isSome = true) →
      (Instr.slice t (.slice a len cap) (lo.map (LV.toV ρ)) (hi.map (LV.toV ρ)) (mx.map (LV.toV ρ))).run P w =
        .ok (.slice (if (m.getD cap).toNat = (l.getD 0).toNat then a else a.map (·.add ((l.getD 0).toNat * z))) ((h.getD len).toNat - (l.getD 0).toNat) ((m.getD cap).toNat - (l.getD 0).toNat)) w := by
    intro a len cap b0 b1 b2 b3 b4
    simp only [Instr.slice]
    rw [run_bind_ok (run_underlying' hd w)]
    simp only
    rw [run_bind_ok (run_sliceBounds h1 h2 h3 b0 b1 b2 b3 b4 w)]
    simp only
    rw [run_bind_ok (run_sizeL hz w)]
    rfl
  unfold cutL at hc
  split at hc
  · split at hc
    · rename_i hb
      cases hc
      refine ⟨?_, by simp [LV.ok]⟩
      obtain ⟨b0, b1, b2, b3⟩ := hb
      simp only [LV.toV]
      rw [key none 0 0 (by omega) (by simp; omega) (by simp; omega) (by simp; omega) b3]
      simp [b0, b1, b2]
    · cases hc
  · rename_i a off len cap
    split at hc
    · rename_i hb
      obtain ⟨b0, b1⟩ := hb
      unfold cutS at hc
      split at hc
      · rename_i m' c
        split at hc
        · rename_i hb2
          obtain ⟨s1, s2, s3⟩ := hb2
          cases hc
          simp only [LV.ok] at hx
          refine ⟨?_, by simp only [LV.ok]; exact ⟨hx.1, by omega⟩⟩
          simp only [LV.toV]
          rw [key _ len c b0 b1 (by simpa using s2) (by simpa using s3) (fun _ => s1)]
          simp only [Option.getD_some]
          congr 2
          · by_cases e : m' = l.getD 0
            · rw [if_pos (by omega), if_pos e]
            · rw [if_neg (by omega), if_neg e, Option.map_some, addr_add]
          · omega
          · omega
        · cases hc
      · rename_i c
        split at hc
        · rename_i hb2
          cases hc
          simp only [LV.ok] at hx
          refine ⟨?_, by simp only [LV.ok]; exact ⟨hx.1, by omega⟩⟩
          simp only [LV.toV]
          rw [key _ len c b0 b1 (by simpa using hb2) (by simp) (by simp)]
          simp only [Option.getD_none]
          congr 2
          · by_cases e : (c : Int) = l.getD 0
            · rw [if_pos (by omega), if_pos e]
            · rw [if_neg (by omega), if_neg e, Option.map_some, addr_add]
          · omega
          · omega
        · cases hc
      · rename_i m' e'
        split at hc
        · rename_i hb2
          obtain ⟨s1, s2, s3, rfl⟩ := hb2
          cases hc
          simp only [LV.ok] at hx
          obtain ⟨hx1, hx2, hx3, hxs⟩ := hx
          have hcap := cap_ge hx2 hx3
          refine ⟨?_, by simp only [LV.ok]; exact ⟨hx1, by omega⟩⟩
          simp only [LV.toV]
          rw [key _ len _ b0 b1 (by simpa using s2) (by simp only [Option.getD_some]; omega) (fun _ => s1)]
          simp only [Option.getD_some]
          congr 2
          · by_cases e : m' = l.getD 0
            · rw [if_pos (by omega), if_pos e]
            · rw [if_neg (by omega), if_neg e, Option.map_some, addr_add]
          · omega
          · omega
        · cases hc
      · rename_i e'
        split at hc
        · rename_i hb2
          obtain ⟨s1, rfl⟩ := hb2
          simp only [LV.ok] at hx
          obtain ⟨hx1, hx2, hx0, hxs⟩ := hx
          have hx3 : off + max len lim * e' ≤ ρ.cap a := by
            rcases Nat.le_total len lim with hh | hh
            · rw [Nat.max_eq_right hh]; exact hlim a off len e' rfl
            · rw [Nat.max_eq_left hh]; exact hx0
          generalize max len lim = big at s1 hx3 hc
          have hcap := cap_ge hx2 hx3
          split at hc
          · rename_i hl
            cases hc
            refine ⟨?_, ?_⟩
            · simp only [LV.toV]
              rw [key _ len _ b0 b1 (by simp only [Option.getD_none]; omega) (by simp) (by simp)]
              simp only [Option.getD_none]
              congr 2
              · rw [if_neg (by omega), Option.map_some, addr_add]
              · omega
              · rw [div_sub]; omega
            · simp only [LV.ok]
              refine ⟨hx1, hx2, Nat.le_trans ?_ hx3, hxs⟩
              rw [Nat.add_assoc, ← Nat.add_mul]
              exact Nat.add_le_add_left (Nat.mul_le_mul_right _ (by omega)) _
          · rename_i hl
            cases hc
            have hll : l.getD 0 = big := by omega
            have hhl : h.getD len = big := by omega
            refine ⟨?_, ?_⟩
            · simp only [LV.toV]
              rw [key _ len _ b0 b1 (by simp only [Option.getD_none]; omega) (by simp) (by simp)]
              simp only [Option.getD_none, hll, hhl, Int.toNat_natCast, Nat.sub_self]
              rw [div_sub]
              congr 2
              simp only [Ren.taddr, Bool.false_eq_true, if_false]
              by_cases e : (ρ.cap a - off) / e' = big
              · rw [if_pos e, if_pos (by omega)]
              · rw [if_neg e, if_neg (by omega), Option.map_some, addr_add]
            · simp only [LV.ok]
              rw [hll]
              exact ⟨hx1, hx2, by simpa using hx3, fun _ => hxs⟩
        · cases hc
    · cases hc
  · rename_i a off alt e' zz
    split at hc
    · rename_i hb
      cases hc
      simp only [LV.ok] at hx
      refine ⟨?_, by simp only [LV.ok]; exact ⟨hx.1, hx.2.1, hx.2.2.1, fun e => hx.2.2.2 (by simp at e; exact e.1)⟩⟩
      obtain ⟨b0, b1, b2, b3⟩ := hb
      have two : ∀ (A : Addr) (cp : Nat), 0 ≤ m.getD cp → m.getD cp ≤ cp → (m.getD cp).toNat = (if m.isSome then 0 else cp) →
          (Instr.slice t (.slice (some A) 0 cp) (lo.map (LV.toV ρ)) (hi.map (LV.toV ρ)) (mx.map (LV.toV ρ))).run P w = .ok (.slice (some A) 0 (if m.isSome then 0 else cp)) w := by
        intro A cp c0 c1 c2
        rw [key _ 0 cp (by omega) (by simp; omega) (by rw [show (((0 : Nat) : Int)) = 0 from rfl, b1]; exact c0) c1 b3]
        rw [show (((0 : Nat) : Int)) = 0 from rfl, b0, b1, c2]
        simp [Addr.add]
      cases zz with
      | true =>
        simp only [LV.toV, Bool.true_or, if_true]
        rw [two _ 0 (by cases m <;> simp_all) (by cases m <;> simp_all) (by cases m <;> simp_all)]
        simp
      | false =>
        have hsp := hx.2.2.2 rfl
        cases m with
        | none =>
          simp only [LV.toV, Bool.false_or, Option.isSome_none, Bool.false_eq_true, if_false]
          rw [two _ _ (Int.natCast_nonneg _) (Int.le_refl _) (Int.toNat_natCast _)]
          simp
        | some m =>
          simp only [Option.getD_some] at b2
          subst b2
          simp only [LV.toV, Bool.false_or, Option.isSome_some, Bool.false_eq_true, if_false, if_true]
          rw [two _ _ (Int.le_refl _) (Int.natCast_nonneg _) rfl]
          simp only [Ren.taddr, if_true, Bool.false_eq_true, if_false, Ren.zaddr_none hsp]
          simp
    · cases hc
  · cases hc

theorem limL_ok {W : World} {keep : Nat → Prop} {g : LHeap} {x : LV} (h : Rel W keep ρ g w) (hx : x.ok ρ g.next) : LimOk ρ x (limL x g) := by
  intro a off len e hxe
  subst hxe
  obtain ⟨h1, h2, h3, _⟩ := hx
  have hle : off ≤ ρ.cap a := Nat.le_trans (Nat.le_add_right _ _) h3
  simp only [limL]
  split
  · rename_i vs hg
    obtain ⟨_, _, _, C, ty, fz, _, k1, _, _, k2⟩ := h.obj a _ hg
    have := k2 rfl
    have h4 : vs.length ≤ ρ.cap a := by omega
    by_cases ho : off ≤ vs.length
    · have := Nat.div_mul_le_self (vs.length - off) e
      omega
    · rw [Nat.sub_eq_zero_of_le (by omega), Nat.zero_div]; omega
  · omega

theorem sim_cut {t : TypeId} {x v : LV} {lo hi mx : Option LV} {n lim : Nat} (hx : x.ok ρ n) (hlim : LimOk ρ x lim) (hc : cutT P t x lo hi mx lim = some v) :
    Yields1 P ρ n w (Instr.sliceAt t (x.toV ρ) (lo.map (LV.toV ρ)) (hi.map (LV.toV ρ)) (mx.map (LV.toV ρ))) v := by
  unfold cutT at hc
  split at hc
  · rename_i l h m h1 h2 h3
    split at hc
    · rename_i hd
      split at hc
      · cases hc
      · rename_i hm
        have hm0 : mx = none := by
          rcases optInt_spec h3 with ⟨e, _⟩ | ⟨k, i, _, e⟩
          · exact e
          · rw [e] at hm; simp at hm
        subst hm0
        unfold cutStrL at hc
        split at hc
        · rename_i s
          split at hc
          · rename_i hb
            cases hc
            refine ⟨?_, by simp [LV.ok]⟩
            simp only [LV.toV, Instr.sliceAt]
            rw [run_bind_ok (run_underlying' hd w)]
            simp only [Instr.slice]
            rw [run_bind_ok (run_underlying' hd w)]
            simp only [Option.map_none, Option.isSome_none, Bool.false_eq_true, if_false]
            have hsz : (⟨s.toArray⟩ : ByteArray).size = s.length := by simp [ByteArray.size]
            have := run_sliceBounds (P := P) (ρ := ρ) (b := false) (len := s.length) (cap := s.length) h1 h2 h3 hb.1 hb.2.1 (by
              rcases optInt_spec h3 with ⟨_, e⟩ | ⟨k, i, e, _⟩
              · subst e; simpa using hb.2.2
              · cases e) (by
              rcases optInt_spec h3 with ⟨_, e⟩ | ⟨k, i, e, _⟩
              · subst e; simp
              · cases e) (by
              rcases optInt_spec h3 with ⟨_, e⟩ | ⟨k, i, e, _⟩
              · subst e; simp
              · cases e) w
            rw [hsz]
            simp only [Option.map_none] at this
            rw [run_bind_ok this]
            simp only [run_pure]
            congr 2
            apply ByteArray.ext
            rw [ByteArray.data_extract]
            apply Array.ext'
            simp [List.extract_eq_take_drop, List.drop_take]
          · cases hc
        · cases hc
    · rename_i e hd
      split at hc
      · rename_i z hz
        split at hc
        · cases hc
        · rename_i hz0
          obtain ⟨r1, r2⟩ := sim_cutSlice (P := P) (w := w) hd hz (by omega) h1 h2 h3 hx hlim hc
          refine ⟨?_, r2⟩
          simp only [Instr.sliceAt]
          rw [run_bind_ok (run_underlying' hd w)]
          exact r1
      · cases hc
    · rename_i n' e hd
      split at hc
      · rename_i z hz
        unfold cutArrL at hc
        split at hc
        · rename_i a off
          split at hc
          · rename_i hb
            obtain ⟨b0, b1, b2, b3, b4⟩ := hb
            cases hc
            refine ⟨?_, ?_⟩
            · simp only [LV.toV, Instr.sliceAt]
              rw [run_bind_ok (run_underlying' hd w)]
              simp only
              rw [run_bind_ok (show (Instr.sureAddr (.pointer (some (ρ.addr a off)))).run P w = .ok (ρ.addr a off) w from rfl)]
              rw [run_bind_ok (run_sliceBounds h1 h2 h3 b0 b1 b2 b3 b4 w)]
              simp only
              rw [run_bind_ok (run_sizeL hz w), run_pure]
              congr 2
              · by_cases e : m.getD n' = l.getD 0
                · rw [if_pos (by omega), if_pos e]
                · rw [if_neg (by omega), if_neg e, addr_add]
              · omega
              · omega
            · simp only [LV.ok] at hx ⊢
              exact ⟨hx, by omega⟩
          · cases hc
        · cases hc
      · cases hc
    · cases hc
  · cases hc

/-! ### Arithmetic -/
theorem ofPure_spec {s : Sem Value} {v : LV} (h : ofPure s = some v) (ρ : Ren) (n : Nat) (w : World) : Yields1 P ρ n w s v := by
  unfold ofPure at h
  split at h
  · cases h; exact ⟨rfl, by simp [LV.ok]⟩
  · cases h; exact ⟨rfl, by simp [LV.ok]⟩
  · cases h; exact ⟨by simp [LV.toV, Sem.run], by simp [LV.ok]⟩
  · cases h
theorem sim_un {op : UnOp} {x v : LV} (h : unL op x = some v) (ρ : Ren) (n : Nat) (w : World) : Yields1 P ρ n w (Op.unary op (x.toV ρ)) v := by
  unfold unL at h
  split at h
  · exact ofPure_spec h ρ n w
  · exact ofPure_spec h ρ n w
  · cases h

theorem toList_mk (s : List UInt8) : (⟨s.toArray⟩ : ByteArray).toList = s := by rw [ByteArray.toList_eq]

end Go.Lm

/-
  The logical machine, part F: equality; maps.
-/
namespace Go.Lm

variable {P : Program} {W : World} {keep : Nat → Prop} {ρ : Ren} {g : LHeap} {w : World}

theorem cellsOf_of_sizeL {t : TypeId} {n : Nat} (h : sizeL P t = some n) : P.cellsOf t = n := by
  unfold sizeL at h
  simp only [Program.cellsOf, h, Option.getD_some]
theorem fieldsOf_of {t : TypeId} {fs : Array Field} (h : P.underlying t = some (.struct fs)) : P.fieldsOf t = fs := by simp [Program.fieldsOf, h]

theorem str_eq (a b : List UInt8) : ((⟨a.toArray⟩ : ByteArray).toList == (⟨b.toArray⟩ : ByteArray).toList) = (a == b) := by rw [toList_mk, toList_mk]
theorem str_eq' (a b : List UInt8) : ((⟨a.toArray⟩ : ByteArray) == (⟨b.toArray⟩ : ByteArray)) = (a == b) := by rw [beq_toListBytes, str_eq]

theorem run_partN {t : TypeId} {n : Option Nat} {cs : List LV} {off : Nat} {v : LV} (hn : aggN P t = some n) (h : partL n cs off = some v) (w : World) :
    (part t (toVs ρ cs).toArray off).run P w = .ok (v.toV ρ) w := by
  obtain ⟨d, i, hd, hi, rfl⟩ := aggN_spec hn
  simp only [part]
  rw [run_bind_ok (run_isAgg hd w)]
  unfold partL at h
  by_cases hag : isAggD d = true
  · simp only [hag, if_true] at h ⊢
    cases h
    rw [run_bind_ok (run_sizeOf' hi w), run_pure]
    simp only [LV.toV]
    congr 2
    apply Array.ext'
    simp only [Array.toList_extract, toVs_eq, List.extract_eq_take_drop, List.map_take, List.map_drop]
    congr 1
    omega
  · simp only [hag, Bool.false_eq_true, if_false] at h ⊢
    simp only [List.getElem?_toArray, toVs_getElem?, h, Option.map_some]
    rfl

section forms
variable (w : World) (d : Nat) {t : TypeId}
theorem eqi_pp {e : TypeId} (h : P.underlying t = some (.pointer e)) : (Op.equalIn (d + 1) t (.pointer none) (.pointer none)).run P w = .ok true w := by simp [Op.equalIn, run_underlying' h]
theorem eqi_pq {e : TypeId} (h : P.underlying t = some (.pointer e)) (a : Addr) : (Op.equalIn (d + 1) t (.pointer none) (.pointer (some a))).run P w = .ok false w := by simp [Op.equalIn, run_underlying' h]
theorem eqi_qp {e : TypeId} (h : P.underlying t = some (.pointer e)) (a : Addr) : (Op.equalIn (d + 1) t (.pointer (some a)) (.pointer none)).run P w = .ok false w := by simp [Op.equalIn, run_underlying' h]
theorem eqi_ii {ms : Array (String × TypeId)} (h : P.underlying t = some (.interface ms)) : (Op.equalIn (d + 1) t .nilIface .nilIface).run P w = .ok true w := by simp [Op.equalIn, run_underlying' h]
theorem eqi_ij {ms : Array (String × TypeId)} (h : P.underlying t = some (.interface ms)) (u : TypeId) (v : Value) : (Op.equalIn (d + 1) t .nilIface (.iface u v)).run P w = .ok false w := by simp [Op.equalIn, run_underlying' h]
theorem eqi_ji {ms : Array (String × TypeId)} (h : P.underlying t = some (.interface ms)) (u : TypeId) (v : Value) : (Op.equalIn (d + 1) t (.iface u v) .nilIface).run P w = .ok false w := by simp [Op.equalIn, run_underlying' h]
theorem eqi_jk {ms : Array (String × TypeId)} (h : P.underlying t = some (.interface ms)) {u u' : TypeId} (v v' : Value) (hne : u ≠ u') : (Op.equalIn (d + 1) t (.iface u v) (.iface u' v')).run P w = .ok false w := by simp [Op.equalIn, run_underlying' h, hne]
theorem eqi_jj {ms : Array (String × TypeId)} (h : P.underlying t = some (.interface ms)) {u : TypeId} {i : TypeInfo} (v v' : Value) (hi : P.info? u = some i) (hc : i.comparable = true) :
    (Op.equalIn (d + 1) t (.iface u v) (.iface u v')).run P w = (Op.equalIn d u v v').run P w := by simp [Op.equalIn, run_underlying' h, run_typeInfo hi, hc]
theorem eqi_ss {e : TypeId} (h : P.underlying t = some (.slice e)) (l c l' c' : Nat) : (Op.equalIn (d + 1) t (.slice none l c) (.slice none l' c')).run P w = .ok true w := by simp [Op.equalIn, run_underlying' h]
theorem eqi_sr {e : TypeId} (h : P.underlying t = some (.slice e)) (l c l' c' : Nat) (a : Addr) : (Op.equalIn (d + 1) t (.slice none l c) (.slice (some a) l' c')).run P w = .ok false w := by simp [Op.equalIn, run_underlying' h]
theorem eqi_rs {e : TypeId} (h : P.underlying t = some (.slice e)) (l c l' c' : Nat) (a : Addr) : (Op.equalIn (d + 1) t (.slice (some a) l c) (.slice none l' c')).run P w = .ok false w := by simp [Op.equalIn, run_underlying' h]
theorem eqi_mm {k e : TypeId} (h : P.underlying t = some (.map k e)) : (Op.equalIn (d + 1) t (.map none) (.map none)).run P w = .ok true w := by simp [Op.equalIn, run_underlying' h]
theorem eqi_mn {k e : TypeId} (h : P.underlying t = some (.map k e)) (a : Nat) : (Op.equalIn (d + 1) t (.map none) (.map (some a))).run P w = .ok false w := by simp [Op.equalIn, run_underlying' h]
theorem eqi_nm {k e : TypeId} (h : P.underlying t = some (.map k e)) (a : Nat) : (Op.equalIn (d + 1) t (.map (some a)) (.map none)).run P w = .ok false w := by simp [Op.equalIn, run_underlying' h]
theorem eqi_ff {ps rs : Array TypeId} {v : Bool} (h : P.underlying t = some (.func ps rs v)) : (Op.equalIn (d + 1) t .nilFunc .nilFunc).run P w = .ok true w := by simp [Op.equalIn, run_underlying' h]
theorem eqi_fg {ps rs : Array TypeId} {v : Bool} (h : P.underlying t = some (.func ps rs v)) (f : Fn) (a b : Array Value) : (Op.equalIn (d + 1) t .nilFunc (.func f a b)).run P w = .ok false w := by simp [Op.equalIn, run_underlying' h]
theorem eqi_gf {ps rs : Array TypeId} {v : Bool} (h : P.underlying t = some (.func ps rs v)) (f : Fn) (a b : Array Value) : (Op.equalIn (d + 1) t (.func f a b) .nilFunc).run P w = .ok false w := by simp [Op.equalIn, run_underlying' h]
end forms
theorem slice_toV (ρ : Ren) (a off l : Nat) (c : Cap) : ∃ cp, (LV.slice a off l c).toV ρ = .slice (some (ρ.addr a off)) l cp := by cases c <;> exact ⟨_, rfl⟩

theorem run_eqTy : ∀ (d : Nat),
    (∀ (t : TypeId) (x y : LV) (b : Bool) (m : Nat) (w : World), eqTy P d t x y = some b → (Op.equalIn (d + m) t (x.toV ρ) (y.toV ρ)).run P w = .ok b w) ∧
    (∀ (fs : List Field) (xs ys : List LV) (b : Bool) (m : Nat) (w : World), eqFields P d fs xs ys = some b → (Op.eqFields (d + m) (toVs ρ xs).toArray (toVs ρ ys).toArray fs).run P w = .ok b w) ∧
    (∀ (e : TypeId) (n : Option Nat) (z : Nat) (xs ys : List LV) (is : List Nat) (b : Bool) (m : Nat) (w : World), aggN P e = some n → eqElems P d e n z xs ys is = some b →
      (Op.eqItems (d + m) e z (toVs ρ xs).toArray (toVs ρ ys).toArray is).run P w = .ok b w) := by
  intro d
  induction d with
  | zero => exact ⟨fun t x y b m w h => by simp [eqTy] at h, fun fs xs ys b m w h => by simp [eqFields] at h, fun e n z xs ys is b m w _ h => by simp [eqElems] at h⟩
  | succ d ih =>
    obtain ⟨ih1, ih2, ih3⟩ := ih
    refine ⟨fun t x y b m w h => ?_, fun fs xs ys b m w h => ?_, fun e n z xs ys is b m w hn h => ?_⟩
    · rw [show d + 1 + m = (d + m) + 1 by omega]
      unfold eqTy at h
      split at h
      · rename_i a' b' hd; cases h; exact run_equalIn_bool' w _ _ _ _ hd
      · rename_i k a' k' b' hd
        split at h
        · rename_i hk; subst hk; cases h; exact run_equalIn_int w _ _ _ _ _ _ hd
        · cases h
      · rename_i a' b' hd
        cases h
        simp only [LV.toV]
        rw [run_equalIn_string w _ _ _ _ hd, str_eq]
      · rename_i hd; cases h; exact eqi_pp w _ hd
      · rename_i hd; cases h; exact eqi_pq w _ hd _
      · rename_i hd; cases h; exact eqi_qp w _ hd _
      · rename_i hd; cases h; exact eqi_ii w _ hd
      · rename_i hd; cases h; exact eqi_ij w _ hd _ _
      · rename_i hd; cases h; exact eqi_ji w _ hd _ _
      · rename_i tx vx ty vy hd
        simp only [LV.toV]
        split at h
        · rename_i hne
          cases h
          exact eqi_jk w _ hd _ _ hne
        · rename_i he
          have he := Classical.not_not.1 he
          subst he
          split at h
          · rename_i i hi
            split at h
            · rename_i hcmp
              rw [eqi_jj w _ hd _ _ hi hcmp]
              exact ih1 _ _ _ _ m w h
            · cases h
          · cases h
      · rename_i fields xs ys hd
        simp only [LV.toV]
        split at h
        · cases h
        · rename_i hst
          rw [run_equalIn_struct w _ _ _ _ (by rw [fieldsOf_of hd]; exact hd) (by simpa using hst), fieldsOf_of hd]
          exact ih2 _ _ _ _ _ _ h
      · rename_i len e xs ys hd
        simp only [LV.toV]
        split at h
        · rename_i n z hn hz
          obtain ⟨i, hi, hs⟩ := sizeL_spec hz
          rw [run_equalIn_array w _ _ _ hd hi, cellsOf_of_sizeL hz]
          exact ih3 _ _ _ _ _ _ _ _ _ hn h
        · cases h
      · rename_i hd; cases h; exact eqi_ss w _ hd _ _ _ _
      · rename_i a off l c hd; cases h; obtain ⟨cp, e⟩ := slice_toV ρ a off l c; rw [e]; exact eqi_sr w _ hd _ _ _ _ _
      · rename_i hd; cases h; exact eqi_sr w _ hd _ _ _ _ _
      · rename_i a off l c hd; cases h; obtain ⟨cp, e⟩ := slice_toV ρ a off l c; rw [e]; exact eqi_rs w _ hd _ _ _ _ _
      · rename_i hd; cases h; exact eqi_rs w _ hd _ _ _ _ _
      · rename_i hd; cases h; exact eqi_mm w _ hd
      · rename_i hd; cases h; exact eqi_mn w _ hd _
      · rename_i hd; cases h; exact eqi_nm w _ hd _
      · rename_i hd; cases h; exact eqi_ff w _ hd
      · rename_i hd; cases h; exact eqi_fg w _ hd _ _ _
      · rename_i hd; cases h; exact eqi_gf w _ hd _ _ _
      · cases h
    · rw [show d + 1 + m = d + (m + 1) by omega]
      unfold eqFields at h
      cases fs with
      | nil => simp at h; subst h; simp [Op.eqFields]
      | cons f fs =>
        simp only at h
        simp only [Op.eqFields]
        split at h
        · rename_i hf
          simp only [ne_eq, hf, not_true_eq_false, if_false]
          exact ih2 _ _ _ _ (m + 1) w h
        · rename_i hf
          simp only [ne_eq, hf, not_false_eq_true, if_true]
          split at h
          · rename_i n hn
            split at h
            · rename_i a b' ha hb
              simp only [Sem.run_bind, run_partN hn ha, run_partN hn hb, Result.andThen_ok]
              split at h
              · rename_i he
                rw [ih1 _ _ _ _ (m + 1) w he]
                simp only [Result.andThen_ok, Bool.not_true, Bool.false_eq_true, if_false]
                exact ih2 _ _ _ _ (m + 1) w h
              · rename_i he
                cases h
                rw [ih1 _ _ _ _ (m + 1) w he]
                simp
              · cases h
            · cases h
          · cases h
    · rw [show d + 1 + m = d + (m + 1) by omega]
      unfold eqElems at h
      cases is with
      | nil => simp at h; subst h; simp [Op.eqItems]
      | cons i is =>
        simp only at h
        simp only [Op.eqItems]
        split at h
        · rename_i a b' ha hb
          simp only [Sem.run_bind, run_partN hn ha, run_partN hn hb, Result.andThen_ok]
          split at h
          · rename_i he
            rw [ih1 _ _ _ _ (m + 1) w he]
            simp only [Result.andThen_ok, Bool.not_true, Bool.false_eq_true, if_false]
            exact ih3 _ _ _ _ _ _ _ (m + 1) w hn h
          · rename_i he
            cases h
            rw [ih1 _ _ _ _ (m + 1) w he]
            simp
          · cases h
        · cases h

theorem run_equal {t : TypeId} {x y : LV} {b : Bool} (h : eqTy P 60 t x y = some b) (w : World) : (Op.equal t (x.toV ρ) (y.toV ρ)).run P w = .ok b w := by
  have := (run_eqTy (P := P) (ρ := ρ) 60).1 t x y b 9940 w h
  simpa [Op.equal, Op.maxDepth] using this

end Go.Lm

/-
  The logical machine, part G: maps.
-/
namespace Go.Lm

variable {P : Program} {W : World} {keep : Nat → Prop} {ρ : Ren} {g : LHeap} {w : World}

theorem sameNow_eqTy {t : TypeId} {d : TypeDesc} {x y : LV} {b c : Bool} (hd : P.underlying t = some d) (h : Instr.sameNow d (x.toV ρ) (y.toV ρ) = some b) (h2 : eqTy P 60 t x y = some c) : b = c := by
  unfold eqTy at h2
  rw [hd] at h2
  cases x with
  | int k a =>
    cases y with
    | int k' a' =>
      cases d <;> simp [Instr.sameNow, LV.toV] at h h2
      obtain ⟨_, h⟩ := h
      obtain ⟨_, h2⟩ := h2
      rw [← h, ← h2]
    | slice _ _ _ cc => cases cc <;> cases d <;> simp [Instr.sameNow, LV.toV] at h
    | _ => cases d <;> simp [Instr.sameNow, LV.toV] at h
  | str a =>
    cases y with
    | str a' =>
      cases d <;> simp [Instr.sameNow, LV.toV] at h h2
      rw [str_eq'] at h
      rw [← h, ← h2]
    | slice _ _ _ cc => cases cc <;> cases d <;> simp [Instr.sameNow, LV.toV] at h
    | _ => cases d <;> simp [Instr.sameNow, LV.toV] at h
  | bool a =>
    cases y with
    | bool a' =>
      cases d <;> simp [Instr.sameNow, LV.toV] at h h2
      rw [← h, ← h2]
    | slice _ _ _ cc => cases cc <;> cases d <;> simp [Instr.sameNow, LV.toV] at h
    | _ => cases d <;> simp [Instr.sameNow, LV.toV] at h
  | slice _ _ _ cc => cases cc <;> cases d <;> simp [Instr.sameNow, LV.toV] at h
  | _ => cases d <;> simp [Instr.sameNow, LV.toV] at h

def toR (ρ : Ren) (r : Option (Nat × LV)) : Option (Nat × Value) := r.map fun p => (p.1, p.2.toV ρ)

theorem findNow_eq {t : TypeId} {d : TypeDesc} {k : LV} (hd : P.underlying t = some d) : ∀ (es : List (LV × LV × Nat)) (i : Nat) (r : Option (Nat × LV)) (r' : Option (Nat × Value)),
    findL P t k es i = some r → Instr.findNow d (k.toV ρ) (es.map (toE ρ)) i = some r' → r' = toR ρ r := by
  intro es
  induction es with
  | nil => intro i r r' h h'; simp [findL] at h; simp [Instr.findNow] at h'; subst h; subst h'; rfl
  | cons e es ih =>
    intro i r r' h h'
    simp only [findL] at h
    simp only [List.map_cons, Instr.findNow, toE] at h'
    split at h
    · rename_i he
      cases h
      split at h'
      · cases h'; rfl
      · rename_i hs; have := sameNow_eqTy hd hs he; cases this
      · cases h'
    · rename_i he
      split at h'
      · rename_i hs; have := sameNow_eqTy hd hs he; cases this
      · exact ih _ _ _ h h'
      · cases h'
    · cases h
theorem run_findAsking {t : TypeId} {k : LV} : ∀ (es : List (LV × LV × Nat)) (i : Nat) (r : Option (Nat × LV)) (w : World),
    findL P t k es i = some r → (Instr.findAsking t (k.toV ρ) (es.map (toE ρ)) i).run P w = .ok (toR ρ r) w := by
  intro es
  induction es with
  | nil => intro i r w h; simp [findL] at h; subst h; rfl
  | cons e es ih =>
    intro i r w h
    simp only [findL] at h
    simp only [List.map_cons, Instr.findAsking, toE]
    split at h
    · rename_i he
      cases h
      rw [run_bind_ok (run_equal he w)]
      rfl
    · rename_i he
      rw [run_bind_ok (run_equal he w)]
      exact ih _ _ w h
    · cases h
theorem run_findKey {t : TypeId} {k : LV} {es : List (LV × LV × Nat)} {r : Option (Nat × LV)} {d : TypeDesc} (hd : P.underlying t = some d) (h : findL P t k es 0 = some r) (w : World) :
    (Instr.findKey t (k.toV ρ) (es.map (toE ρ))).run P w = .ok (toR ρ r) w := by
  simp only [Instr.findKey]
  rw [run_bind_ok (run_underlying' hd w)]
  cases hn : Instr.findNow d (k.toV ρ) (es.map (toE ρ)) 0 with
  | some r' => rw [findNow_eq hd es 0 r r' h hn]; rfl
  | none => exact run_findAsking es 0 r w h

theorem run_checkKey : ∀ (d : Nat) (t : TypeId) (v : LV) (b : Bool) (m : Nat) (w : World), checkKeyL P d t v = true → (Instr.checkKey b (d + m) t (v.toV ρ)).run P w = .ok () w := by
  intro d
  induction d with
  | zero => intro t v b m w h; simp [checkKeyL] at h
  | succ d ih =>
    intro t v b m w h
    rw [show d + 1 + m = (d + m) + 1 by omega]
    unfold checkKeyL at h
    simp only [Instr.checkKey]
    split at h
    · rename_i hd; rw [run_bind_ok (run_underlying' hd w)]; rfl
    · rename_i hd; rw [run_bind_ok (run_underlying' hd w)]; rfl
    · rename_i hd; rw [run_bind_ok (run_underlying' hd w)]; rfl
    · rename_i fs cs hd
      rw [run_bind_ok (run_underlying' hd w)]
      simp only [LV.toV]
      rw [← Array.forIn_toList]
      have hall : ∀ f ∈ fs.toList, (match aggN P f.type with
        | some n => match partL n cs f.offset with
          | some x => checkKeyL P d f.type x
          | none => false
        | none => false) = true := fun f hf => by
          have := Array.all_eq_true_iff_forall_mem.1 h f (by simpa using hf)
          exact this
      clear h hd
      refine (run_bind_ok (a := PUnit.unit) (w' := w) ?_).trans rfl
      revert hall
      generalize fs.toList = l
      intro hall
      induction l with
      | nil => simp
      | cons f l ihl =>
        have h1 := hall f (by simp)
        simp only [List.forIn_cons, Sem.run_bind]
        split at h1
        · rename_i n hn
          split at h1
          · rename_i x hx
            by_cases hf : f.name = "_"
            · simp only [ne_eq, hf, not_true_eq_false, if_false, Sem.run_pure, Result.andThen_ok]
              exact ihl fun f hf => hall f (by simp [hf])
            · simp only [ne_eq, hf, not_false_eq_true, if_true, Sem.run_bind, run_partN hn hx, Result.andThen_ok, ih _ _ b m w h1, Sem.run_pure]
              exact ihl fun f hf => hall f (by simp [hf])
          · cases h1
        · cases h1
    · rename_i len e cs hd
      rw [run_bind_ok (run_underlying' hd w)]
      simp only [LV.toV]
      split at h
      · rename_i n z hn hz
        have hall : ∀ i ∈ List.range len, (match partL n cs (i * z) with
          | some x => checkKeyL P d e x
          | none => false) = true := fun i hi => List.all_eq_true.1 h i hi
        clear h hd
        simp only [Std.Legacy.Range.forIn_eq_forIn_range', Std.Legacy.Range.size, Nat.sub_zero, Nat.add_one_sub_one, Nat.div_one]
        rw [List.range_eq_range'] at hall
        refine (run_bind_ok (a := PUnit.unit) (w' := w) ?_).trans rfl
        revert hall
        generalize List.range' 0 len = l
        intro hall
        induction l with
        | nil => simp
        | cons i l ihl =>
          have h1 := hall i (by simp)
          simp only [List.forIn_cons, Sem.run_bind]
          split at h1
          · rename_i x hx
            simp only [run_sizeL hz, Result.andThen_ok, run_partN hn hx, ih _ _ b m w h1, Sem.run_pure]
            exact ihl fun i hi => hall i (by simp [hi])
          · cases h1
      · cases h
    · cases h
theorem run_checkKey60 {t : TypeId} {v : LV} {b : Bool} (h : checkKeyL P 60 t v = true) (w : World) : (Instr.checkKey b 10000 t (v.toV ρ)).run P w = .ok () w := run_checkKey 60 t v b 9940 w h

theorem findL_spec {t : TypeId} {k : LV} : ∀ (es : List (LV × LV × Nat)) (i j : Nat) (v : LV), findL P t k es i = some (some (j, v)) → i ≤ j ∧ ∃ e, es[j - i]? = some e ∧ e.2.1 = v := by
  intro es
  induction es with
  | nil => intro i j v h; simp [findL] at h
  | cons e es ih =>
    intro i j v h
    simp only [findL] at h
    split at h
    · cases h; exact ⟨Nat.le_refl _, e, by simp, rfl⟩
    · obtain ⟨h1, e', h2, h3⟩ := ih _ _ _ h
      refine ⟨by omega, e', ?_, h3⟩
      rw [show j - i = (j - (i + 1)) + 1 by omega]
      simpa using h2
    · cases h

theorem under_of_check {t : TypeId} {k : LV} (h : checkKeyL P 60 t k = true) : ∃ d, P.underlying t = some d := by
  cases hu : P.underlying t with
  | some d => exact ⟨d, rfl⟩
  | none => unfold checkKeyL at h; simp [hu] at h

/-! ### The map's object -/
theorem Rel.mapObj {a clock : Nat} {es : List (LV × LV × Nat)} {own : Own} (h : Rel W keep ρ g w) (hg : g.get a = some (.map es clock own)) :
    w.heap[ρ.blk a]? = some (.map (es.map (toE ρ)).toArray clock) := (h.obj a _ hg).2.2
theorem run_getMap {a clock : Nat} {es : List (LV × LV × Nat)} {own : Own} (h : Rel W keep ρ g w) (hg : g.get a = some (.map es clock own)) :
    (getObj (ρ.blk a)).run P w = .ok (.map (es.map (toE ρ)).toArray clock) w := by
  simp [getObj, Sem.run, h.mapObj hg]
theorem run_setMap {a clock clock' : Nat} {es es' : List (LV × LV × Nat)} {own : Own} (h : Rel W keep ρ g w) (hg : g.get a = some (.map es clock own)) (hown : own ≠ .ro)
    (hes : ∀ e ∈ es', EOk ρ g.next e) :
    Turns P W keep ρ g w (setObj (ρ.blk a) (.map (es'.map (toE ρ)).toArray clock')) (g.set a (.map es' clock' own)) := by
  have hlt := (Array.getElem?_eq_some_iff.1 (h.mapObj hg)).1
  refine ⟨{ w with heap := w.heap.setIfInBounds (ρ.blk a) (.map (es'.map (toE ρ)).toArray clock') }, ?_, ?_, rfl⟩
  · simp [setObj, Sem.run, h.mapObj hg]
  · refine h.turn hg (by cases own <;> simp_all [LObj.mine]) ⟨hes, ?_⟩
    simp [hlt]

def lookTail (kt et : TypeId) (ok : Bool) (k : Value) (es : Array MapEntry) : Sem Value := do
  Instr.checkKey es.isEmpty 10000 kt k
  let r ← Instr.findKey kt k es.toList
  match r with
  | some (_, v) => do
    let x ← pure (v, true)
    pure (if ok then .tuple #[x.1, .bool x.2] else x.1)
  | none => do
    let z ← zeroValue et
    let x ← pure (z, false)
    pure (if ok then .tuple #[x.1, .bool x.2] else x.1)
theorem run_lookTail {kt et : TypeId} {ok : Bool} {k v : LV} {d : TypeDesc} {n : Nat} (hd : P.underlying kt = some d) (hck : checkKeyL P 60 kt k = true) {es : List (LV × LV × Nat)} (hes : ∀ e ∈ es, EOk ρ n e)
    (hl : (match findL P kt k es 0 with
            | some (some (_, v)) => some (if ok then LV.tuple [v, .bool true] else v)
            | some none => match zeroL P et with
              | some z => some (if ok then .tuple [z, .bool false] else z)
              | none => none
            | none => none) = some v) (w : World) : Yields1 P ρ n w (lookTail kt et ok (k.toV ρ) (es.map (toE ρ)).toArray) v := by
  unfold Yields1 lookTail
  rw [run_bind_ok (run_checkKey60 hck w)]
  split at hl
  · rename_i i u hf
    cases hl
    rw [run_bind_ok (run_findKey hd hf w)]
    obtain ⟨_, e, he, hev⟩ := findL_spec _ _ _ _ hf
    have hok : u.ok ρ n := hev ▸ (hes e (List.mem_of_getElem? he)).2
    cases ok
    · exact ⟨rfl, hok⟩
    · exact ⟨rfl, by simp only [if_true, LV.ok, oks]; exact ⟨hok, trivial, trivial⟩⟩
  · rename_i hf
    split at hl
    · rename_i z hz
      cases hl
      obtain ⟨z1, z2⟩ := run_zeroL (P := P) hz ρ n w
      rw [run_bind_ok (run_findKey hd hf w)]
      simp only [toR, Option.map_none]
      rw [run_bind_ok z1]
      cases ok
      · exact ⟨rfl, z2⟩
      · exact ⟨rfl, by simp only [if_true, LV.ok, oks]; exact ⟨z2, trivial, trivial⟩⟩
    · cases hl
  · cases hl
theorem sim_lookup {t : TypeId} {x k v : LV} {ok : Bool} (h : Rel W keep ρ g w) (hl : lookupL P t x k ok g = some v) :
    Yields1 P ρ g.next w (Instr.lookup t (x.toV ρ) (k.toV ρ) ok) v := by
  unfold lookupL at hl
  split at hl
  · rename_i kt et hm
    split at hl
    · rename_i hck
      obtain ⟨d, hd⟩ := under_of_check hck
      unfold Yields1
      simp only [Instr.lookup]
      rw [run_bind_ok (run_mapShape hm w)]
      cases x with
      | nilm =>
        simp only at hl
        simp only [LV.toV]
        rw [run_bind_ok (run_pure P _ w)]
        exact run_lookTail (es := []) (ρ := ρ) (n := g.next) hd hck (by simp) hl w
      | map a =>
        simp only at hl
        split at hl
        · rename_i es' heq
          split at heq
          · rename_i es clock own hg
            cases heq
            simp only [LV.toV]
            rw [run_bind_ok (run_getMap h hg)]
            simp only
            rw [run_bind_ok (run_pure P _ w)]
            exact run_lookTail (ρ := ρ) (n := g.next) hd hck (h.obj a _ hg).2.1 hl w
          · cases heq
        · cases hl
      | _ => simp at hl
    · cases hl
  · cases hl

theorem same1_bits {x y : LV} (h : same1 x y = true) (n : Nat) : Instr.sameBits n (x.toV ρ) (y.toV ρ) = true := by
  unfold same1 at h
  split at h
  · simpa [LV.toV, Instr.sameBits] using h
  · simpa [LV.toV, Instr.sameBits] using h
  · simp only [LV.toV, Instr.sameBits]
    rw [str_eq']; exact h
  · cases h
theorem sames_bits : ∀ (xs ys : List LV), sames xs ys = true → ∀ n, (toVs ρ xs).length = (toVs ρ ys).length ∧ ((toVs ρ xs).zip (toVs ρ ys)).all (fun (x, y) => Instr.sameBits n x y) = true := by
  intro xs
  induction xs with
  | nil => intro ys h n; cases ys <;> simp_all [sames, toVs]
  | cons x xs ih =>
    intro ys h n
    cases ys with
    | nil => simp [sames] at h
    | cons y ys =>
      simp only [sames, Bool.and_eq_true] at h
      obtain ⟨h1, h2⟩ := ih ys h.2 n
      simp only [toVs, List.length_cons, h1, List.zip_cons_cons, List.all_cons, same1_bits h.1, h2]
      simp
theorem sameL_bits {x y : LV} (h : sameL x y = true) : Instr.sameBits 10000 (x.toV ρ) (y.toV ρ) = true := by
  unfold sameL at h
  split at h
  · rename_i a b
    obtain ⟨h1, h2⟩ := sames_bits (ρ := ρ) a b h 9999
    simp only [LV.toV, Instr.sameBits]
    simp only [List.size_toArray, h1, beq_self_eq_true, Bool.true_and]
    exact h2
  · exact same1_bits h _
theorem run_keyThatStays {x y : LV} (h : sameL x y = true) (w : World) : (Instr.keyThatStays (x.toV ρ) (y.toV ρ)).run P w = .ok (y.toV ρ) w := by
  simp only [Instr.keyThatStays, sameL_bits h, if_true]; rfl

theorem setAt_spec {es es' : List (LV × LV × Nat)} {i : Nat} {k v : LV} (h : setAt es i k v = some es') : ∃ e, es[i]? = some e ∧ sameL e.1 k = true ∧ es' = es.set i (k, v, e.2.2) := by
  unfold setAt at h
  split at h
  · rename_i e he
    split at h
    · rename_i hs; cases h; exact ⟨e, he, hs, rfl⟩
    · cases h
  · cases h
theorem modify_map {es : List (LV × LV × Nat)} {i : Nat} {e : LV × LV × Nat} {f : MapEntry → MapEntry} {e' : LV × LV × Nat} (he : es[i]? = some e) (hf : f (toE ρ e) = toE ρ e') :
    ((es.map (toE ρ)).toArray.modify i f) = ((es.set i e').map (toE ρ)).toArray := by
  apply Array.ext_getElem?
  intro j
  rw [Array.getElem?_modify]
  simp only [List.getElem?_toArray, List.getElem?_map, List.getElem?_set]
  by_cases hj : i = j
  · subst hj
    have := (List.getElem?_eq_some_iff.1 he).1
    rw [if_pos rfl, if_pos rfl, if_pos this, he, Option.map_some, Option.map_some, Option.map_some, hf]
  · simp [hj]
theorem eok_set {es : List (LV × LV × Nat)} {i n : Nat} {e' : LV × LV × Nat} (h : ∀ e ∈ es, EOk ρ n e) (h' : EOk ρ n e') : ∀ e ∈ es.set i e', EOk ρ n e := fun e he => by
  rcases List.mem_or_eq_of_mem_set he with h1 | h1
  · exact h e h1
  · subst h1; exact h'

theorem sim_mapSet {t : TypeId} {x k v : LV} {g' : LHeap} (h : Rel W keep ρ g w) (hk : k.ok ρ g.next) (hv : v.ok ρ g.next) (hs : mapSetL P t x k v g = some g') :
    Turns P W keep ρ g w (Instr.mapUpdate t (x.toV ρ) (k.toV ρ) (v.toV ρ)) g' := by
  unfold mapSetL at hs
  split at hs
  · rename_i kt et a hm
    split at hs
    · rename_i es clock own hg
      split at hs
      · rename_i hc
        obtain ⟨hown, hck⟩ := hc
        obtain ⟨d, hd⟩ := under_of_check hck
        have hes := (h.obj a _ hg).2.1
        simp only [LV.toV, Instr.mapUpdate]
        unfold Turns
        rw [run_bind_ok (run_mapShape hm w)]
        simp only
        rw [run_bind_ok (run_getMap h hg)]
        simp only
        rw [run_bind_ok (run_checkKey60 hck w)]
        split at hs
        · rename_i i u hf
          obtain ⟨es', he', rfl⟩ := Option.map_eq_some_iff.1 hs
          obtain ⟨e, he, hsame, rfl⟩ := setAt_spec he'
          rw [run_bind_ok (run_findKey hd hf w)]
          simp only [toR, Option.map_some]
          have hkey : ((((es.map (toE ρ)).toArray)[i]?).map (·.key)).getD (k.toV ρ) = e.1.toV ρ := by simp [he, toE]
          rw [hkey, run_bind_ok (run_keyThatStays hsame w)]
          rw [modify_map (e' := (k, v, e.2.2)) he rfl]
          exact run_setMap h hg hown (eok_set hes ⟨hk, hv⟩)
        · rename_i hf
          cases hs
          rw [run_bind_ok (run_findKey hd hf w)]
          simp only [toR, Option.map_none]
          have : ((es.map (toE ρ)).toArray.push { key := k.toV ρ, val := v.toV ρ, born := clock }) = ((es ++ [(k, v, clock)]).map (toE ρ)).toArray := by
            simp [toE]
          rw [this]
          exact run_setMap h hg hown (fun e he => by
            rcases List.mem_append.1 he with h1 | h1
            · exact hes e h1
            · simp at h1; subst h1; exact ⟨hk, hv⟩)
        · cases hs
      · cases hs
    · cases hs
  · cases hs

theorem sim_mapEntry {t : TypeId} {x k v : LV} {g' : LHeap} (h : Rel W keep ρ g w) (hk : k.ok ρ g.next) (hs : mapEntryL P t x k g = some (v, g')) :
    Makes P W keep ρ g w (Instr.mapEntry t (x.toV ρ) (k.toV ρ)) v g' := by
  unfold mapEntryL at hs
  split at hs
  · rename_i kt et a hm
    split at hs
    · rename_i es clock own hg
      split at hs
      · rename_i hc
        obtain ⟨hown, hck⟩ := hc
        obtain ⟨d, hd⟩ := under_of_check hck
        have hes := (h.obj a _ hg).2.1
        simp only [LV.toV, Instr.mapEntry]
        unfold Makes
        rw [run_bind_ok (run_mapShape hm w)]
        simp only
        rw [run_bind_ok (run_getMap h hg)]
        simp only
        rw [run_bind_ok (run_checkKey60 hck w)]
        split at hs
        · rename_i i u hf
          rw [run_bind_ok (run_findKey hd hf w)]
          split at hs
          · rename_i e he
            obtain ⟨es', he', heq⟩ := Option.map_eq_some_iff.1 hs
            cases heq
            obtain ⟨e2, he2, hsame, rfl⟩ := setAt_spec he'
            rw [he] at he2
            cases he2
            obtain ⟨_, e3, he3, rfl⟩ := findL_spec _ _ _ _ hf
            simp only [Nat.sub_zero] at he3
            rw [he] at he3
            cases he3
            simp only [toR, Option.map_some]
            have hkey : ((((es.map (toE ρ)).toArray)[i]?).map (·.key)).getD (k.toV ρ) = e.1.toV ρ := by simp [he, toE]
            have hborn : ((((es.map (toE ρ)).toArray)[i]?).map (fun x => (x.born : Int))).getD 0 = e.2.2 := by simp [he, toE]
            rw [hkey, hborn, run_bind_ok (run_keyThatStays hsame w)]
            rw [modify_map (e' := (k, e.2.1, e.2.2)) he rfl]
            have heok := hes e (List.mem_of_getElem? he)
            obtain ⟨w', r1, r2, r3⟩ := run_setMap (P := P) (clock' := clock) h hg hown (eok_set (i := i) hes (show EOk ρ g.next (k, e.2.1, e.2.2) from ⟨hk, heok.2⟩))
            rw [run_bind_ok r1]
            exact ⟨ρ, w', by simp [LV.toV, toVs, goInt], Ren.Ext.refl _ _, r2, by simp only [LV.ok, oks]; exact ⟨by rw [r3]; exact heok.2, trivial, trivial⟩, by rw [r3]; exact Nat.le_refl _⟩
          · cases hs
        · rename_i hf
          split at hs
          · rename_i z hz
            cases hs
            obtain ⟨z1, z2⟩ := run_zeroL (P := P) hz ρ g.next w
            rw [run_bind_ok (run_findKey hd hf w)]
            simp only [toR, Option.map_none]
            rw [run_bind_ok z1]
            have : ((es.map (toE ρ)).toArray.push { key := k.toV ρ, val := z.toV ρ, born := clock }) = ((es ++ [(k, z, clock)]).map (toE ρ)).toArray := by
              simp [toE]
            rw [this]
            obtain ⟨w', r1, r2, r3⟩ := run_setMap (P := P) (clock' := clock + 1) (es' := es ++ [(k, z, clock)]) h hg hown (fun e he => by
              rcases List.mem_append.1 he with h1 | h1
              · exact hes e h1
              · simp at h1; subst h1; exact ⟨hk, z2⟩)
            rw [run_bind_ok r1]
            exact ⟨ρ, w', by simp [LV.toV, toVs, goInt], Ren.Ext.refl _ _, r2, by simp only [LV.ok, oks]; exact ⟨by rw [r3]; exact z2, trivial, trivial⟩, by rw [r3]; exact Nat.le_refl _⟩
          · cases hs
        · cases hs
      · cases hs
    · cases hs
  · cases hs

theorem findIdx_map {es : List (LV × LV × Nat)} {n : Int} : (es.map (toE ρ)).toArray.findIdx? (fun e => (e.born : Int) == n) = es.findIdx? (fun e => ((e.2.2 : Nat) : Int) == n) := by
  simp [List.findIdx?_map, Function.comp_def, toE]

theorem sim_entryStore {t : TypeId} {x s v : LV} {g' : LHeap} (h : Rel W keep ρ g w) (hv : v.ok ρ g.next) (hs : entryStoreL x s v g = some g') :
    Turns P W keep ρ g w (Instr.entryStore t (x.toV ρ) (s.toV ρ) (v.toV ρ)) g' := by
  unfold entryStoreL at hs
  split at hs
  · rename_i a k n
    split at hs
    · rename_i es clock own hg
      split at hs
      · rename_i hown
        have hes := (h.obj a _ hg).2.1
        simp only [LV.toV, Instr.entryStore]
        unfold Turns
        rw [run_bind_ok (run_getMap h hg)]
        simp only
        rw [run_bind_ok (show (asInt (.int k n)).run P w = .ok n w from rfl)]
        rw [findIdx_map]
        split at hs
        · rename_i i hi
          rw [hi]
          split at hs
          · rename_i e he
            cases hs
            simp only
            rw [modify_map (e' := (e.1, v, e.2.2)) he rfl]
            exact run_setMap h hg hown (eok_set hes ⟨(hes e (List.mem_of_getElem? he)).1, hv⟩)
          · cases hs
        · cases hs
      · cases hs
    · cases hs
  · cases hs

theorem eraseIdx_map' {α β : Type} (f : α → β) : ∀ (l : List α) (i : Nat), (l.map f).eraseIdx i = (l.eraseIdx i).map f
  | [], _ => rfl
  | _ :: _, 0 => rfl
  | _ :: l, i + 1 => by simp [eraseIdx_map' f l i]
theorem sim_delete {t : TypeId} {x k : LV} {g' : LHeap} {ts : Array TypeId} {ty : TypeId} (h : Rel W keep ρ g w) (hts : ts[0]? = some t) (hs : deleteL P t x k g = some g') :
    ∃ w', (Builtin.delete_ ts ty #[x.toV ρ, k.toV ρ]).run P w = .ok undef w' ∧ Rel W keep ρ g' w' ∧ g'.next = g.next := by
  unfold deleteL at hs
  split at hs
  · rename_i kt et hm
    split at hs
    · rename_i hck
      obtain ⟨d, hd⟩ := under_of_check hck
      simp only [Builtin.delete_, hts]
      simp only [show ((#[x.toV ρ, k.toV ρ] : Array Value))[0]? = some (x.toV ρ) from rfl, show ((#[x.toV ρ, k.toV ρ] : Array Value))[1]? = some (k.toV ρ) from rfl]
      rw [run_bind_ok (run_mapShape hm w)]
      simp only
      split at hs
      · cases hs
        simp only [LV.toV]
        rw [run_bind_ok (run_checkKey60 hck w)]
        exact ⟨w, rfl, h, by trivial⟩
      · rename_i a
        split at hs
        · rename_i es clock own hg
          split at hs
          · rename_i hown
            have hes := (h.obj a _ hg).2.1
            simp only [LV.toV]
            rw [run_bind_ok (run_getMap h hg)]
            simp only
            rw [run_bind_ok (run_checkKey60 hck w)]
            split at hs
            · rename_i i u hf
              cases hs
              rw [run_bind_ok (run_findKey hd hf w)]
              simp only [toR, Option.map_some]
              obtain ⟨_, e, he, _⟩ := findL_spec _ _ _ _ hf
              have hlt := (List.getElem?_eq_some_iff.1 he).1
              have : (es.map (toE ρ)).toArray.eraseIdxIfInBounds i = ((es.eraseIdx i).map (toE ρ)).toArray := by
                simp [eraseIdx_map']
              rw [this]
              obtain ⟨w', r1, r2, r3⟩ := run_setMap (P := P) (clock' := clock) h hg hown (fun e he => hes e (List.mem_of_mem_eraseIdx he) : ∀ e ∈ es.eraseIdx i, EOk ρ g.next e)
              rw [run_bind_ok r1]
              exact ⟨w', rfl, r2, r3⟩
            · rename_i hf
              cases hs
              rw [run_bind_ok (run_findKey hd hf w)]
              simp only [toR, Option.map_none]
              obtain ⟨w', r1, r2, r3⟩ := run_setMap (P := P) (clock' := clock) h hg hown hes
              rw [run_bind_ok r1]
              refine ⟨w', rfl, ?_, by trivial⟩
              have : g.set a (.map es clock own) = g := LHeap.ext (fun j => by simp only [LHeap.get_set]; split <;> simp_all) (LHeap.next_set _ _ _)
              rw [← this]; exact r2
            · cases hs
          · cases hs
        · cases hs
      · cases hs
    · cases hs
  · cases hs

end Go.Lm

/-
  The logical machine, part H: append, copy and the other built-ins.
-/
namespace Go.Lm

variable {P : Program} {W : World} {keep : Nat → Prop} {ρ : Ren} {g : LHeap} {w : World}

theorem growBy_le (m : Nat) : ∀ (r c : Nat), 256 ≤ c → c ≤ 2 * m → Builtin.growBy m r c ≤ 2 * m
  | 0, c, _, h => h
  | r + 1, c, h0, h => by
    simp only [Builtin.growBy]
    split
    · exact h
    · exact growBy_le m r _ (by omega) (by omega)
theorem nextslicecap_le {m c : Nat} (h : c < m) : Builtin.nextslicecap m c ≤ 2 * m := by
  unfold Builtin.nextslicecap
  split
  · omega
  · split
    · omega
    · exact growBy_le m 4 c (by omega) (by omega)

theorem growBy_le4 (m : Nat) : ∀ (r c : Nat), 4 * c ≤ m * 5 + 2048 → 4 * Builtin.growBy m r c ≤ m * 5 + 2048
  | 0, c, h => h
  | r + 1, c, h => by
    unfold Builtin.growBy
    split
    · exact h
    · exact growBy_le4 m r _ (by omega)
theorem nextslicecap_le4 {m c : Nat} (h : c < m) : 4 * Builtin.nextslicecap m c ≤ m * 5 + 2048 := by
  unfold Builtin.nextslicecap
  split
  · omega
  · split
    · omega
    · exact growBy_le4 m 4 c (by omega)

theorem run_askRoom (n : Nat) (w : World) : (askRoom n).run P w = .ok () w := by
  unfold askRoom
  split <;> rfl
theorem run_chooseCap (need old : Nat) (e : TypeId) (hneed : need < 2 ^ 63) (w : World) : ∃ c, need ≤ c ∧ c < 2 ^ 63 ∧ (choose (.appendCap need old e)).run P w = .ok c { w with drawn := w.drawn + 1 } := by
  refine ⟨need + w.tape w.drawn (.appendCap need old e) % (2 ^ 63 - need), Nat.le_add_right _ _, ?_, ?_⟩
  · have := Nat.mod_lt (w.tape w.drawn (.appendCap need old e)) (show 2 ^ 63 - need > 0 by omega)
    omega
  · simp [choose, Sem.run, Question.forced, Question.cut]

/-- the cells of a source -/
theorem run_src {e n : Nat} {x : LV} {new : List LV} (h : Rel W keep ρ g w) (hx : x.ok ρ g.next) (hs : srcCells e x g = some (n, new)) :
    (Builtin.lenOf (x.toV ρ)).run P w = .ok n w ∧ (∀ k, k ≤ n → (Builtin.firstCells e k (x.toV ρ)).run P w = .ok (toVs ρ (new.take (k * e))).toArray w ∨ e ≠ 1 ∧ ∃ s, x = .str s) ∧
      oks ρ g.next new ∧ (∀ v ∈ new, v.cell = true) ∧ (new.length = n * e ∨ e ≠ 1 ∧ ∃ s, x = .str s) := by
  unfold srcCells at hs
  split at hs
  · cases hs
    refine ⟨rfl, fun k hk => .inl ?_, by simp [oks], by simp, .inl (by simp)⟩
    have : k = 0 := by omega
    subst this
    simp only [LV.toV, Builtin.firstCells, Nat.zero_mul, List.take_zero, toVs]
    rfl
  · cases hs
    refine ⟨rfl, fun k hk => .inl ?_, by simp [oks], by simp, .inl (by simp)⟩
    have : k = 0 := by omega
    subst this
    simp only [LV.toV, Builtin.firstCells, Nat.zero_mul, List.take_zero, toVs]
    rfl
  · rename_i a off len c
    split at hs
    · rename_i vs own hg
      split at hs
      · rename_i hle
        cases hs
        obtain ⟨cp, hv⟩ := slice_toV ρ a off n c
        rw [hv]
        refine ⟨rfl, fun k hk => .inl ?_, ?_, ?_, .inl ?_⟩
        · have hke : k * e ≤ n * e := Nat.mul_le_mul_right _ hk
          simp only [Builtin.firstCells]
          rw [run_loadCells h hg (by omega), List.take_take, Nat.min_eq_left hke]
        · exact (oks_iff _ _ _).2 fun v hv => (oks_iff _ _ _).1 (h.oks hg) v (List.mem_of_mem_drop (List.mem_of_mem_take hv))
        · exact fun v hv => h.celled hg v (List.mem_of_mem_drop (List.mem_of_mem_take hv))
        · simp; omega
      · cases hs
    · cases hs
  · rename_i s
    cases hs
    refine ⟨?_, fun k hk => ?_, ?_, ?_, ?_⟩
    · simp [LV.toV, Builtin.lenOf, ByteArray.size]
    · by_cases he : e = 1
      · subst he
        refine .inl ?_
        simp only [LV.toV, Builtin.firstCells, run_pure]
        congr 1
        apply Array.ext'
        simp only [Nat.mul_one, toVs_eq, Array.toList_map, ← List.map_take, List.map_map]
        have : (ByteArray.extract ⟨s.toArray⟩ 0 k).data.toList = s.take k := by
          rw [ByteArray.data_extract]; simp [List.extract_eq_take_drop]
        rw [this]
        rfl
      · exact .inr ⟨he, s, rfl⟩
    · exact (oks_iff _ _ _).2 fun v hv => by
        obtain ⟨b, _, rfl⟩ := List.mem_map.1 hv
        simp [LV.ok]
    · intro v hv
      obtain ⟨b, _, rfl⟩ := List.mem_map.1 hv
      rfl
    · by_cases he : e = 1
      · subst he; exact .inl (by simp)
      · exact .inr ⟨he, s, rfl⟩
  · cases hs

/-- Cells written behind a row's known ones, in its own block: the row begins anew at 'off'. -/
theorem run_grow {i off m : Nat} {vs new : List LV} (h : Rel W keep ρ g w) (hg : g.get i = some (.cells vs .op)) (hm : m = 0 ∨ off + m ≤ vs.length)
    (hok : oks ρ g.next new) (hcell : ∀ v ∈ new, v.cell = true) (hcap : off + m + new.length ≤ ρ.cap i) :
    ∃ w', (storeCells (ρ.addr i (off + m)) (toVs ρ new)).run P w = .ok () w' ∧
      Rel W keep (ρ.put g.next (ρ.blk i) (ρ.base i + off) (ρ.cap i - off)) ((g.erase i).alloc (.cells ((vs.drop off).take m ++ new) .op)) w' := by
  obtain ⟨hi, h1, h2, C, ty, fz, hb, hC, hc, hf, hop⟩ := h.obj i _ hg
  have hop := hop rfl
  obtain ⟨C', hr, hs, hget⟩ := run_storeCells_aux (P := P) (b := ρ.blk i) (base := ρ.base i + (off + m)) (toVs ρ new) 0 C w hb
    (by rw [toVs_length]; omega) (hf (by simp)) (fun v hv => by
      rw [toVs_eq] at hv
      obtain ⟨u, hu, rfl⟩ := List.mem_map.1 hv
      exact LV.not_agg (hcell u hu))
  have hol : ((vs.drop off).take m).length = m := by
    rcases hm with rfl | hm
    · simp
    · simp; omega
  refine ⟨_, hr, h.regrow hg ?_ ?_ (by omega) (by rw [hs]; exact hop) ?_ ?_ (by rw [hs]; exact hf (by simp))⟩
  · exact oks_append.2 ⟨(oks_iff _ _ _).2 fun v hv => (oks_iff _ _ _).1 h1 v (List.mem_of_mem_drop (List.mem_of_mem_take hv)), hok⟩
  · intro v hv
    rcases List.mem_append.1 hv with h' | h'
    · exact h2 v (List.mem_of_mem_drop (List.mem_of_mem_take h'))
    · exact hcell v h'
  · rw [List.length_append, hol]; omega
  · intro j v hj
    rw [hget, toVs_length]
    rw [List.getElem?_append, hol] at hj
    by_cases hjm : j < m
    · rw [if_pos hjm, List.getElem?_take, if_pos hjm, List.getElem?_drop] at hj
      rw [if_neg (by omega), Nat.add_assoc]
      exact hc _ v hj
    · rw [if_neg hjm] at hj
      have := (List.getElem?_eq_some_iff.1 hj).1
      rw [if_pos (by omega), toVs_getElem?, show ρ.base i + off + j - (ρ.base i + (off + m) + 0) = j - m by omega, hj]
      rfl

theorem zeroCells_size (z : Array Value) (n : Nat) : (Builtin.zeroCells z n).size = n * z.size := by simp [Builtin.zeroCells]

/-- What append does where it makes a new row. -/
theorem run_regrowNew {e : Nat} {et : TypeId} {i : TypeInfo} {z : Value} {row : List LV} {need newCap : Nat} {g0 : LHeap} {n : Nat} (h : Rel W keep ρ g0 { w with drawn := n }) (hz : i.zero = some z) (hi : P.info? et = some i) (hzs : z.cells.size = e) (he : 0 < e)
    (hok : oks ρ g0.next row) (hcell : ∀ v ∈ row, v.cell = true) (hlen : row.length = need * e) (hcap : need ≤ newCap) :
    ∃ ρ' w', ((zeroValue et >>= fun z => do
        let rest := Builtin.zeroCells z.cells (newCap - need)
        pure (.slice (some (← newRow et ((toVs ρ row).toArray ++ rest))) need newCap) : Sem Value)).run P { w with drawn := n } = .ok ((LV.slice g0.next 0 need (.op e)).toV ρ') w' ∧
      Post W keep ρ g0 (.slice g0.next 0 need (.op e)) (g0.alloc (.cells row .op)) ρ' w' := by
  rw [run_bind_ok (run_zeroValue' hi hz _)]
  simp only
  have hsz : (Builtin.zeroCells z.cells (newCap - need)).size = (newCap - need) * e := by rw [zeroCells_size, hzs]
  rw [run_bind_ok (run_newRow _ _ _)]
  have hrel := h.newOpen (rest := Builtin.zeroCells z.cells (newCap - need)) (ty := et) (fz := (0, 0)) hok hcell (fun o _ => by simp)
  refine ⟨_, _, ?_, Ren.put_ext _ _ _ _ _, hrel, ?_, by simp⟩
  · simp only [run_pure, LV.toV, Ren.put_addr, Ren.put_cap, Nat.sub_zero]
    rw [hsz, hlen, ← Nat.add_mul, Nat.mul_div_cancel _ he, show need + (newCap - need) = newCap by omega]
  · simp only [LV.ok, Ren.put_cap, LHeap.next_alloc]
    refine ⟨by omega, he, ?_, Ren.put_spot _ _ _ _ _⟩
    rw [hsz, hlen]
    omega

/-- the value of a slice: base, length, capacity -/
theorem slice_val {s : LV} {n sl : Nat} {e : Nat} {old : List LV} (hs : s.ok ρ n) (hsrc : srcCells e s g = some (sl, old)) (hstr : ∀ b, s ≠ .str b) :
    ∃ base cap, s.toV ρ = .slice base sl cap ∧ sl ≤ cap ∧ (base = none → sl = 0) := by
  unfold srcCells at hsrc
  split at hsrc
  · cases hsrc; exact ⟨none, 0, rfl, Nat.le_refl _, fun _ => rfl⟩
  · cases hsrc; exact ⟨_, _, rfl, Nat.zero_le _, fun _ => rfl⟩
  · rename_i a off len c
    split at hsrc
    · split at hsrc
      · cases hsrc
        cases c with
        | ex c => simp only [LV.ok] at hs; exact ⟨_, _, rfl, hs.2, fun e => by cases e⟩
        | op e' => simp only [LV.ok] at hs; exact ⟨_, _, rfl, cap_ge hs.2.1 hs.2.2.1, fun e => by cases e⟩
      · cases hsrc
    · cases hsrc
  · exact absurd rfl (hstr _)
  · cases hsrc

theorem run_firstCells {e n k : Nat} {x : LV} {new : List LV} (h : Rel W keep ρ g w) (hx : x.ok ρ g.next) (hs : srcCells e x g = some (n, new)) (hk : k ≤ n) (hstr : (∃ b, x = .str b) → e = 1) :
    (Builtin.firstCells e k (x.toV ρ)).run P w = .ok (toVs ρ (new.take (k * e))).toArray w := by
  rcases (run_src h hx hs).2.1 k hk with r | ⟨h1, h2⟩
  · exact r
  · exact absurd (hstr h2) h1

open Builtin in
def appCore (et : TypeId) (size sl cap : Nat) (base : Option Addr) (xv : Value) : Sem Value := do
  let n ← lenOf xv
  if sl + n ≤ cap then
    let new ← firstCells size n xv
    if let some a := base then storeCells (a.add (sl * size)) new.toList
    pure (.slice base (sl + n) cap)
  else
    if ((sl + n : Nat) : Int) > IntKind.i64.max ∧ (false = true ∨ (← typeInfo et).bytes = 0) then runtimePanic (.error "growslice: len out of range")
    if nextslicecap (sl + n) cap * (← typeInfo et).bytes > 2 ^ 48 then (do
      if !(← mayShare size sl n base xv) then mark .noRoom
      unsupported (.resourceLimit "append: a slice or a string whose bytes no memory bears"))
    let newCap ← choose (.appendCap (sl + n) cap et)
    askRoom (newCap * (← typeInfo et).bytes)
    let old ← firstCells size sl (.slice base sl cap)
    let new ← firstCells size n xv
    let rest := zeroCells (← zeroValue et).cells (newCap - (sl + n))
    pure (.slice (some (← newRow et (old ++ new ++ rest))) (sl + n) newCap)
theorem append_core {ts : Array TypeId} {ty t t2 et : TypeId} {i : TypeInfo} {d2 : TypeDesc} {base : Option Addr} {sl cap : Nat} {xv : Value} (ht : ts[0]? = some t) (ht2 : ts[1]? = some t2) (hel : sliceElem P t = some et)
    (hu2 : P.underlying t2 = some d2) (hd2 : ∀ k, d2 ≠ .int k) (hi : P.info? et = some i) (w : World) :
    (Builtin.append_ ts ty #[.slice base sl cap, xv]).run P w = (appCore et i.size sl cap base xv).run P w := by
  simp only [Builtin.append_, ht, ht2, show ((#[Value.slice base sl cap, xv] : Array Value))[0]? = some (.slice base sl cap) from rfl, show ((#[Value.slice base sl cap, xv] : Array Value))[1]? = some xv from rfl]
  rw [run_bind_ok (run_sliceElem hel w)]
  simp only
  rw [run_bind_ok (run_sizeOf' hi w)]
  simp only [pure_bind]
  rw [run_bind_ok (run_underlying' hu2 w)]
  cases d2 with
  | int k => exact absurd rfl (hd2 k)
  | _ => rfl
theorem app_fits {et : TypeId} {e sl cap n : Nat} {base : Option Addr} {xv : Value} {C : Array Value} {w' : World} (hn : (Builtin.lenOf xv).run P w = .ok n w) (hf : (Builtin.firstCells e n xv).run P w = .ok C w)
    (hcap : sl + n ≤ cap) (hst : ∀ a, base = some a → (storeCells (a.add (sl * e)) C.toList).run P w = .ok () w') (hno : base = none → w' = w) :
    (appCore et e sl cap base xv).run P w = .ok (.slice base (sl + n) cap) w' := by
  unfold appCore
  rw [run_bind_ok hn, if_pos hcap, run_bind_ok hf]
  cases base with
  | none => rw [hno rfl]; rfl
  | some a => simp only; rw [run_bind_ok (hst a rfl)]; rfl
theorem app_grows {et : TypeId} {i : TypeInfo} {e sl cap n : Nat} {base : Option Addr} {xv : Value} {old new : Array Value} (hn : (Builtin.lenOf xv).run P w = .ok n w)
    (hold : ∀ m, (Builtin.firstCells e sl (.slice base sl cap)).run P { w with drawn := m } = .ok old { w with drawn := m }) (hnew : ∀ m, (Builtin.firstCells e n xv).run P { w with drawn := m } = .ok new { w with drawn := m })
    (hcap : ¬ sl + n ≤ cap) (hi : P.info? et = some i) (hb : i.bytes ≠ 0) (hsz : (sl + n) * i.bytes * 2 ≤ 2 ^ 48 ∨ ((sl + n) * 5 + 2048) * i.bytes ≤ 2 ^ 50) :
    ∃ c, sl + n ≤ c ∧ (appCore et e sl cap base xv).run P w = ((zeroValue et >>= fun z => do
        let rest := Builtin.zeroCells z.cells (c - (sl + n))
        pure (.slice (some (← newRow et (old ++ new ++ rest))) (sl + n) c) : Sem Value)).run P { w with drawn := w.drawn + 1 } := by
  have hb1 : 1 ≤ i.bytes := by omega
  have hneed : sl + n ≤ (sl + n) * i.bytes := by
    conv => lhs; rw [← Nat.mul_one (sl + n)]
    exact Nat.mul_le_mul_left _ hb1
  have hbig : sl + n < 2 ^ 63 := by
    rcases hsz with hsz | hsz
    · omega
    · have : ((sl + n) * 5 + 2048) * 1 ≤ ((sl + n) * 5 + 2048) * i.bytes := Nat.mul_le_mul_left _ hb1
      omega
  obtain ⟨c, hc1, hc2, hc3⟩ := run_chooseCap (P := P) (sl + n) cap et hbig w
  refine ⟨c, hc1, ?_⟩
  unfold appCore
  rw [run_bind_ok hn, if_neg hcap, run_bind_ok (run_typeInfo hi w), if_neg (by simp [hb])]
  rw [run_bind_ok (run_typeInfo hi w), if_neg]
  · rw [run_bind_ok hc3, run_bind_ok (run_typeInfo hi _), run_bind_ok (run_askRoom _ _), run_bind_ok (hold _), run_bind_ok (hnew _)]
  · rcases hsz with hsz | hsz
    · have := nextslicecap_le (m := sl + n) (c := cap) (by omega)
      have h2 : Builtin.nextslicecap (sl + n) cap * i.bytes ≤ (2 * (sl + n)) * i.bytes := Nat.mul_le_mul_right _ this
      have h3 : (2 * (sl + n)) * i.bytes = (sl + n) * i.bytes * 2 := by rw [Nat.mul_assoc, Nat.mul_comm 2]
      omega
    · have := nextslicecap_le4 (m := sl + n) (c := cap) (by omega)
      have h2 : 4 * Builtin.nextslicecap (sl + n) cap * i.bytes ≤ ((sl + n) * 5 + 2048) * i.bytes := Nat.mul_le_mul_right _ this
      rw [Nat.mul_assoc] at h2
      omega

theorem sim_append {e : Nat} {s x v : LV} {g' : LHeap} {ts : Array TypeId} {ty : TypeId} {t t2 et : TypeId} {i : TypeInfo} {z : Value} {d2 : TypeDesc}
    (h : Rel W keep ρ g w) (hs : s.ok ρ g.next) (hx : x.ok ρ g.next) (hstr : (∃ b, x = .str b) → e = 1)
    (ht : ts[0]? = some t) (ht2 : ts[1]? = some t2) (hel : sliceElem P t = some et) (hu2 : P.underlying t2 = some d2) (hd2 : ∀ k, d2 ≠ .int k)
    (hi : P.info? et = some i) (hz : i.zero = some z) (hzs : z.cells.size = e) (hsz : i.size = e) (he : 0 < e) (hbytes : i.bytes ≠ 0)
    (ha : appendL e i.bytes s x g = some (v, g')) :
    Makes P W keep ρ g w (Builtin.append_ ts ty #[s.toV ρ, x.toV ρ]) v g' := by
  unfold appendL at ha
  split at ha
  · rename_i n new sl old hxs hss
    split at ha
    · cases ha
    · rename_i hns
      have hsstr : ∀ b, s ≠ .str b := fun b e => by subst e; exact hns rfl
      obtain ⟨base, cap, hsv, hcap, hbase⟩ := slice_val hs hss hsstr
      obtain ⟨q1, -, q3, q4, q5⟩ := run_src (P := P) h hx hxs
      obtain ⟨p1, -, p3, p4, p5⟩ := run_src (P := P) h hs hss
      have hnew : new.length = n * e := q5.elim id fun ⟨a, b⟩ => absurd (hstr b) a
      have hold : old.length = sl * e := p5.elim id fun ⟨a, b, c⟩ => absurd c (hsstr b)
      have f1 : ∀ m, (Builtin.firstCells e n (x.toV ρ)).run P { w with drawn := m } = .ok (toVs ρ new).toArray { w with drawn := m } := fun m => by
        rw [run_firstCells (h.drawn (n := m)) hx hxs (Nat.le_refl _) hstr, ← hnew, List.take_length]
      have f2 : ∀ m, (Builtin.firstCells e sl (.slice base sl cap)).run P { w with drawn := m } = .ok (toVs ρ old).toArray { w with drawn := m } := fun m => by
        rw [← hsv, run_firstCells (h.drawn (n := m)) hs hss (Nat.le_refl _) (fun ⟨b, e⟩ => absurd e (hsstr b)), ← hold, List.take_length]
      have hrow : oks ρ g.next (old ++ new) := oks_append.2 ⟨p3, q3⟩
      have hrowc : ∀ v ∈ old ++ new, v.cell = true := fun v hv => (List.mem_append.1 hv).elim (p4 v) (q4 v)
      have hrowl : (old ++ new).length = (sl + n) * e := by rw [List.length_append, hold, hnew, Nat.add_mul]
      unfold Makes
      rw [hsv, append_core ht ht2 hel hu2 hd2 hi w, hsz]
      split at ha
      · -- nothing is appended
        rename_i hn0
        cases ha
        subst hn0
        have h0 : new = [] := List.length_eq_zero_iff.1 (by rw [hnew, Nat.zero_mul])
        subst h0
        refine ⟨ρ, w, ?_, Post.same h hs⟩
        rw [hsv]
        exact app_fits q1 (f1 w.drawn) (by omega) (fun a _ => by simp [toVs, storeCells]) (fun _ => rfl)
      · rename_i hn0
        split at ha
        · cases ha
        · rename_i hbig
          have hbig := Classical.not_not.1 hbig
          have hpos : 0 < n * e := Nat.mul_pos (Nat.pos_of_ne_zero hn0) he
          -- a new row, the elder heap as g0
          have grows : ∀ (g0 : LHeap), (∀ m, Rel W keep ρ g0 { w with drawn := m }) → g0.next = g.next → ¬ sl + n ≤ cap →
              ∃ ρ' w', (appCore et e sl cap base (x.toV ρ)).run P w = .ok ((LV.slice g.next 0 (sl + n) (.op e)).toV ρ') w' ∧
                Post W keep ρ g (.slice g.next 0 (sl + n) (.op e)) (g0.alloc (.cells (old ++ new) .op)) ρ' w' := by
            intro g0 hg0 hnx hc
            obtain ⟨c, c1, c2⟩ := app_grows (P := P) (et := et) q1 f2 f1 hc hi hbytes hbig
            obtain ⟨ρ', w', r1, r2⟩ := run_regrowNew (P := P) (et := et) (need := sl + n) (newCap := c) (hg0 (w.drawn + 1)) hz hi hzs he (by rw [hnx]; exact hrow) hrowc hrowl c1
            refine ⟨ρ', w', ?_, ?_⟩
            · rw [c2, ← hnx, ← r1, toVs_append]
              simp
            · rw [← hnx]
              exact ⟨r2.ext.mono (by rw [hnx]; exact Nat.le_refl _), r2.rel, by simpa [hnx] using r2.ok, by have := r2.le; rw [hnx] at this; exact this⟩
          split at ha
          · rename_i a off len cp
            have hsl : sl = len := by
              unfold srcCells at hss
              simp only at hss
              split at hss
              · split at hss
                · cases hss; rfl
                · cases hss
              · cases hss
            subst hsl
            split at ha
            · rename_i vs own hg
              have hsrc : off + sl * e ≤ vs.length ∧ old = (vs.drop off).take (sl * e) := by
                unfold srcCells at hss
                simp only [hg] at hss
                split at hss
                · rename_i hle; cases hss; exact ⟨hle, rfl⟩
                · cases hss
              obtain ⟨hvis, hold2⟩ := hsrc
              have inplace : ∀ (g1 : LHeap), storeCellsL a (off + sl * e) new g = some g1 → sl + n ≤ cap → base = some (ρ.addr a off) →
                  ∃ w', (appCore et e sl cap base (x.toV ρ)).run P w = .ok (.slice base (sl + n) cap) w' ∧ Rel W keep ρ g1 w' ∧ g1.next = g.next := by
                intro g1 hst hc hb
                obtain ⟨w', s1, s2, s3⟩ := sim_storeCells (P := P) h hst q3
                refine ⟨w', app_fits q1 (f1 w.drawn) hc (fun a' ha' => ?_) (fun e => by rw [hb] at e; cases e), s2, s3⟩
                rw [hb] at ha'; cases ha'
                rw [addr_add]; exact s1
              split at ha
              · rename_i c
                simp only [LV.toV, Value.slice.injEq] at hsv
                obtain ⟨hb1, -, hb3⟩ := hsv
                simp only [LV.ok] at hs
                split at ha
                · rename_i hfit
                  split at ha
                  · rename_i g1 hst
                    cases ha
                    obtain ⟨w', s1, s2, s3⟩ := inplace _ hst (by omega) hb1.symm
                    refine ⟨ρ, w', by rw [s1]; simp only [LV.toV, hb1, hb3], Ren.Ext.refl _ _, s2, ?_, by rw [s3]; exact Nat.le_refl _⟩
                    simp only [LV.ok]; rw [s3]; exact ⟨hs.1, hfit⟩
                  · cases ha
                · rename_i hfit
                  cases ha
                  exact grows g (fun m => h.drawn) rfl (by omega)
              · rename_i e'
                split at ha
                · cases ha
                · rename_i hee
                  have hee : e' = e ∧ own = .op := by
                    constructor
                    · exact Classical.byContradiction fun c => hee (.inl c)
                    · exact Classical.byContradiction fun c => hee (.inr c)
                  obtain ⟨rfl, rfl⟩ := hee
                  simp only [LV.toV, Value.slice.injEq] at hsv
                  obtain ⟨hb1, -, hb3⟩ := hsv
                  simp only [LV.ok] at hs
                  obtain ⟨hs1, hs2, hs3, hsp⟩ := hs
                  split at ha
                  · rename_i hfit
                    split at ha
                    · rename_i g1 hst
                      cases ha
                      have hle : vs.length ≤ ρ.cap a := by
                        obtain ⟨_, _, _, C, ty, fz, _, hC, _, _, hop⟩ := h.obj a _ hg
                        have := hop rfl
                        omega
                      have hcc : sl + n ≤ cap := by rw [← hb3]; exact cap_ge hs2 (by omega)
                      obtain ⟨w', s1, s2, s3⟩ := inplace _ hst hcc hb1.symm
                      refine ⟨ρ, w', by rw [s1]; simp only [LV.toV, hb1, hb3], Ren.Ext.refl _ _, s2, ?_, by rw [s3]; exact Nat.le_refl _⟩
                      simp only [LV.ok]; rw [s3]; exact ⟨hs1, hs2, by omega, hsp⟩
                    · cases ha
                  · rename_i hfit
                    cases ha
                    by_cases hc : sl + n ≤ cap
                    · have hcapc : off + (sl + n) * e' ≤ ρ.cap a := by
                        rw [← hb3, Nat.le_div_iff_mul_le hs2] at hc
                        omega
                      obtain ⟨w', s1, s2⟩ := run_grow (P := P) (m := sl * e') h hg (.inr hvis) q3 q4 (by rw [hnew, Nat.add_assoc, ← Nat.add_mul]; exact hcapc)
                      rw [← hold2] at s2
                      refine ⟨_, w', ?_, Ren.put_ext _ _ _ _ _, s2, ?_, by simp⟩
                      · rw [app_fits q1 (f1 w.drawn) hc (w' := w') (fun a' ha' => by rw [← hb1] at ha'; cases ha'; rw [addr_add]; exact s1) (fun e => by rw [← hb1] at e; cases e)]
                        simp only [LV.toV, ← hb1, ← hb3, Ren.addr, Ren.put_blk, Ren.put_base, Ren.put_cap, Nat.add_zero, Nat.sub_zero]
                      · simp only [LV.ok, Ren.put_cap, LHeap.next_alloc, LHeap.next_erase]
                        exact ⟨by omega, hs2, by omega, Ren.put_spot _ _ _ _ _⟩
                    · exact grows (g.erase a) (fun m => h.drawn.erase) (LHeap.next_erase _ _) hc
            · cases ha
          · rename_i a off alt e' zz
            have hsl : sl = 0 ∧ old = [] := by
              unfold srcCells at hss
              simp only at hss
              cases hss; exact ⟨rfl, rfl⟩
            obtain ⟨rfl, rfl⟩ := hsl
            simp only [LV.toV, Value.slice.injEq] at hsv
            obtain ⟨hb1, -, hb3⟩ := hsv
            simp only [LV.ok] at hs
            obtain ⟨hs1, hs2, hs3, hsp⟩ := hs
            split at ha
            · rename_i hzz
              cases ha
              rw [if_pos hzz] at hb3
              have := grows g (fun m => h.drawn) rfl (by omega)
              simpa using this
            · rename_i hzz
              rw [if_neg hzz] at hb3
              split at ha
              · rename_i vs own hg
                split at ha
                · cases ha
                · rename_i hee
                  have hee : e' = e ∧ own = .op := by
                    constructor
                    · exact Classical.byContradiction fun c => hee (.inl c)
                    · exact Classical.byContradiction fun c => hee (.inr c)
                  obtain ⟨rfl, rfl⟩ := hee
                  cases ha
                  by_cases hc : 0 + n ≤ cap
                  · have hcapc : off + n * e' ≤ ρ.cap a := by
                      rw [← hb3, Nat.le_div_iff_mul_le hs2, Nat.zero_add] at hc
                      omega
                    have hne : (ρ.cap a - off) / e' ≠ 0 := by omega
                    rw [if_neg hne] at hb1
                    have hz0 : zz = false := by simpa using hzz
                    subst hz0
                    simp only [Ren.taddr, Bool.false_eq_true, if_false] at hb1
                    obtain ⟨w', s1, s2⟩ := run_grow (P := P) (m := 0) h hg (.inl rfl) q3 q4 (by rw [hnew]; exact hcapc)
                    simp only [List.take_zero, List.nil_append] at s2
                    refine ⟨_, w', ?_, Ren.put_ext _ _ _ _ _, s2, ?_, by simp⟩
                    · rw [app_fits q1 (f1 w.drawn) hc (w' := w') (fun a' ha' => by rw [← hb1] at ha'; cases ha'; rw [addr_add, Nat.zero_mul]; exact s1) (fun e => by rw [← hb1] at e; cases e)]
                      simp only [LV.toV, ← hb1, ← hb3, Ren.addr, Ren.put_blk, Ren.put_base, Ren.put_cap, Nat.add_zero, Nat.sub_zero, Nat.zero_add]
                    · simp only [LV.ok, Ren.put_cap, LHeap.next_alloc, LHeap.next_erase]
                      exact ⟨by omega, hs2, by omega, Ren.put_spot _ _ _ _ _⟩
                  · have := grows (g.erase a) (fun m => h.drawn.erase) (LHeap.next_erase _ _) hc
                    simpa using this
              · cases ha
          · have hsl : sl = 0 ∧ old = [] := by
              unfold srcCells at hss
              simp only at hss
              cases hss; exact ⟨rfl, rfl⟩
            obtain ⟨rfl, rfl⟩ := hsl
            simp only [LV.toV, Value.slice.injEq] at hsv
            cases ha
            have := grows g (fun m => h.drawn) rfl (by omega)
            simpa using this
          · cases ha
  · cases ha

end Go.Lm

/-
  The logical machine, part I: the other built-ins; what is made; conversions; iterators.
-/
namespace Go.Lm

variable {P : Program} {W : World} {keep : Nat → Prop} {ρ : Ren} {g : LHeap} {w : World}

/-! ### copy, len, clear, max, min -/
theorem sim_copy {e : Nat} {d x v : LV} {g' : LHeap} {ts : Array TypeId} {ty t et : TypeId} (h : Rel W keep ρ g w) (hd : d.ok ρ g.next) (hx : x.ok ρ g.next) (hstr : (∃ b, x = .str b) → e = 1)
    (ht : ts[0]? = some t) (hel : sliceElem P t = some et) (hz : sizeL P et = some e) (hc : copyL e d x g = some (v, g')) :
    Makes P W keep ρ g w (Builtin.copy_ ts ty #[d.toV ρ, x.toV ρ]) v g' := by
  unfold copyL at hc
  split at hc
  · rename_i n new hxs
    obtain ⟨q1, -, q3, q4, q5⟩ := run_src (P := P) h hx hxs
    have hnew : new.length = n * e := q5.elim id fun ⟨a, b⟩ => absurd (hstr b) a
    have head : ∀ (base : Option Addr) (l c : Nat), d.toV ρ = .slice base l c → (Builtin.copy_ ts ty #[d.toV ρ, x.toV ρ]).run P w =
        ((do
          let n := Nat.min n l
          let cells ← Builtin.firstCells e n (x.toV ρ)
          if let some a := base then storeCells a cells.toList
          pure (goInt n)) : Sem Value).run P w := by
      intro base l c hv
      rw [hv]
      simp only [Builtin.copy_, ht, show ((#[Value.slice base l c, x.toV ρ] : Array Value))[0]? = some (.slice base l c) from rfl, show ((#[Value.slice base l c, x.toV ρ] : Array Value))[1]? = some (x.toV ρ) from rfl]
      rw [run_bind_ok (run_sliceElem hel w)]
      simp only
      rw [run_bind_ok q1, run_bind_ok (run_sizeL hz w)]
      rfl
    have zero : ∀ (base : Option Addr) (c : Nat), d.toV ρ = .slice base 0 c → Makes P W keep ρ g w (Builtin.copy_ ts ty #[d.toV ρ, x.toV ρ]) (.int .i64 0) g := by
      intro base c hv
      refine ⟨ρ, w, ?_, Post.same h (by simp [LV.ok])⟩
      rw [head base 0 c hv]
      simp only
      rw [run_bind_ok (run_firstCells h hx hxs (Nat.min_le_left _ _) hstr)]
      have : Nat.min n 0 = 0 := Nat.min_eq_right (Nat.zero_le _)
      rw [this]
      cases base with
      | none => rfl
      | some a => simp [toVs, storeCells, LV.toV, goInt]
    split at hc
    · cases hc; exact zero none 0 rfl
    · cases hc; exact zero _ _ rfl
    · rename_i a off len cp
      split at hc
      · rename_i g1 hst
        cases hc
        obtain ⟨cap, hv⟩ := slice_toV ρ a off len cp
        obtain ⟨w', s1, s2, s3⟩ := sim_storeCells (P := P) h hst (by
          exact (oks_iff _ _ _).2 fun v hv => (oks_iff _ _ _).1 q3 v (List.mem_of_mem_take hv))
        refine ⟨ρ, w', ?_, Ren.Ext.refl _ _, s2, by simp [LV.ok], by rw [s3]; exact Nat.le_refl _⟩
        rw [head _ _ _ hv]
        simp only
        rw [run_bind_ok (run_firstCells h hx hxs (Nat.min_le_left _ _) hstr)]
        simp only
        rw [run_bind_ok (show (storeCells (ρ.addr a off) (toVs ρ (new.take (Nat.min n len * e))).toArray.toList).run P w = .ok () w' from s1)]
        rfl
      · cases hc
    · cases hc
  · cases hc

theorem sim_len {t : TypeId} {x v : LV} {ts : Array TypeId} {ty : TypeId} {rest : List Value} (h : Rel W keep ρ g w) (ht : ts[0]? = some t) (hl : lenL P t x g = some v) :
    Yields1 P ρ g.next w (Builtin.len_ ts ty (x.toV ρ :: rest).toArray) v := by
  have h0 : ((x.toV ρ :: rest).toArray)[0]? = some (x.toV ρ) := rfl
  unfold lenL at hl
  split at hl
  · rename_i s hd
    cases hl
    refine ⟨?_, by simp [LV.ok]⟩
    simp only [Builtin.len_, ht, h0]
    rw [run_bind_ok (run_underlying' hd w)]
    simp [LV.toV, goInt, ByteArray.size]
  · rename_i n e hd
    cases hl
    refine ⟨?_, by simp [LV.ok]⟩
    simp only [Builtin.len_, ht, h0]
    rw [run_bind_ok (run_underlying' hd w)]
    simp [LV.toV, goInt]
  · rename_i a hd
    split at hl
    · rename_i n e ha
      cases hl
      refine ⟨?_, by simp [LV.ok]⟩
      simp only [Builtin.len_, ht, h0]
      rw [run_bind_ok (run_underlying' hd w)]
      simp only
      rw [run_bind_ok (run_underlying' ha w)]
      simp [LV.toV, goInt]
    · cases hl
  · rename_i e hd
    cases hl
    refine ⟨?_, by simp [LV.ok]⟩
    simp only [Builtin.len_, ht, h0]
    rw [run_bind_ok (run_underlying' hd w)]
    simp [LV.toV, goInt]
  · rename_i e hd
    cases hl
    refine ⟨?_, by simp [LV.ok]⟩
    simp only [Builtin.len_, ht, h0]
    rw [run_bind_ok (run_underlying' hd w)]
    simp [LV.toV, goInt]
  · rename_i e a off len c hd
    cases hl
    obtain ⟨cap, hv⟩ := slice_toV ρ a off len c
    refine ⟨?_, by simp [LV.ok]⟩
    simp only [Builtin.len_, ht, h0]
    rw [run_bind_ok (run_underlying' hd w), hv]
    simp [LV.toV, goInt]
  · rename_i k e hd
    cases hl
    refine ⟨?_, by simp [LV.ok]⟩
    simp only [Builtin.len_, ht, h0]
    rw [run_bind_ok (run_underlying' hd w)]
    simp [LV.toV, goInt]
  · rename_i k e a hd
    split at hl
    · rename_i es clock own hg
      cases hl
      refine ⟨?_, by simp [LV.ok]⟩
      simp only [Builtin.len_, ht, h0]
      rw [run_bind_ok (run_underlying' hd w)]
      simp only [LV.toV]
      rw [run_bind_ok (run_getMap h hg)]
      simp [goInt]
    · cases hl
  · cases hl

theorem zeroCells_eq {z : LV} (n : Nat) : Builtin.zeroCells (z.toV ρ).cells n = (toVs ρ (List.replicate n z.cells).flatten).toArray := by
  rw [LV.cells_toV]
  generalize z.cells = cs
  apply Array.ext'
  simp only [Builtin.zeroCells, Array.toList_map, Array.toList_range]
  rw [List.size_toArray, toVs_length]
  by_cases hz : cs.length = 0
  · have : cs = [] := List.length_eq_zero_iff.1 hz
    subst this
    have : (List.replicate n ([] : List LV)).flatten = [] := by simp
    simp [this, toVs]
  · apply List.ext_getElem?
    intro j
    rw [List.getElem?_map, toVs_getElem?]
    have hlen : (List.replicate n cs).flatten.length = n * cs.length := by simp
    by_cases hj : j < n * cs.length
    · rw [List.getElem?_range hj]
      have hm : j % cs.length < cs.length := Nat.mod_lt _ (by omega)
      have hget : (List.replicate n cs).flatten[j]? = cs[j % cs.length]? := by
        clear hlen
        induction n generalizing j with
        | zero => simp at hj
        | succ n ih =>
          rw [List.replicate_succ, List.flatten_cons, List.getElem?_append]
          by_cases hjc : j < cs.length
          · rw [if_pos hjc, Nat.mod_eq_of_lt hjc]
          · rw [if_neg hjc, ih (j - cs.length) (by rw [Nat.succ_mul] at hj; omega) (Nat.mod_lt _ (by omega))]
            rw [← Nat.mod_eq_sub_mod (by omega)]
      rw [hget, List.getElem?_eq_getElem hm]
      simp only [Option.map_some]
      congr 1
      have hm' : j % cs.length < (toVs ρ cs).toArray.size := by simp [toVs_length]; exact hm
      rw [getElem!_pos (toVs ρ cs).toArray (j % cs.length) hm']
      simp [toVs_eq]
    · have h2 : ¬ j < (List.range (n * cs.length)).length := by simpa using hj
      rw [List.getElem?_eq_none (by omega), List.getElem?_eq_none (by omega)]
      rfl

theorem sim_clear {t : TypeId} {x : LV} {g' : LHeap} {ts : Array TypeId} {ty : TypeId} (h : Rel W keep ρ g w) (ht : ts[0]? = some t) (hc : clearL P t x g = some g') :
    ∃ w', (Builtin.clear_ ts ty #[x.toV ρ]).run P w = .ok undef w' ∧ Rel W keep ρ g' w' ∧ g'.next = g.next := by
  have h0 : (#[x.toV ρ] : Array Value)[0]? = some (x.toV ρ) := rfl
  unfold clearL at hc
  split at hc
  · rename_i d hd
    cases hc
    refine ⟨w, ?_, h, rfl⟩
    simp only [Builtin.clear_, ht, h0]
    rw [run_bind_ok (run_underlying' hd w)]
    rfl
  · rename_i d hd
    cases hc
    refine ⟨w, ?_, h, rfl⟩
    simp only [Builtin.clear_, ht, h0]
    rw [run_bind_ok (run_underlying' hd w)]
    rfl
  · rename_i d hd
    cases hc
    refine ⟨w, ?_, h, rfl⟩
    simp only [Builtin.clear_, ht, h0]
    rw [run_bind_ok (run_underlying' hd w)]
    rfl
  · rename_i d a hd
    split at hc
    · rename_i es clock own hg
      split at hc
      · rename_i hown
        cases hc
        obtain ⟨w', r1, r2, r3⟩ := run_setMap (P := P) (clock' := clock) (es' := []) h hg hown (by simp)
        refine ⟨w', ?_, r2, r3⟩
        simp only [Builtin.clear_, ht, h0]
        rw [run_bind_ok (run_underlying' hd w)]
        simp only [LV.toV]
        rw [run_bind_ok (run_getMap h hg)]
        simp only
        rw [run_bind_ok (show (setObj (ρ.blk a) (.map #[] clock)).run P w = .ok () w' from r1)]
        rfl
      · cases hc
    · cases hc
  · rename_i e a off len c hd
    split at hc
    · rename_i z hz
      obtain ⟨cap, hv⟩ := slice_toV ρ a off len c
      obtain ⟨z1, z2⟩ := run_zeroL (P := P) hz ρ g.next w
      split at hc
      · rename_i hl0
        subst hl0
        cases hc
        refine ⟨w, ?_, h, rfl⟩
        simp only [Builtin.clear_, ht, h0]
        rw [run_bind_ok (run_underlying' hd w), hv]
        rfl
      · rename_i hl0
        obtain ⟨w', s1, s2, s3⟩ := sim_storeCells (P := P) h hc ((oks_iff _ _ _).2 fun v hv => by
          obtain ⟨l, hl, hv⟩ := List.mem_flatten.1 hv
          rw [List.mem_replicate] at hl
          rw [hl.2] at hv
          exact (oks_iff _ _ _).1 (LV.cells_ok z2) v hv)
        refine ⟨w', ?_, s2, s3⟩
        simp only [Builtin.clear_, ht, h0]
        rw [run_bind_ok (run_underlying' hd w), hv]
        cases len with
        | zero => exact absurd rfl hl0
        | succ len =>
          simp only
          rw [run_bind_ok z1, run_bind_ok (show (storeCells (ρ.addr a off) (Builtin.zeroCells (z.toV ρ).cells (len + 1)).toList).run P w = .ok () w' by rw [zeroCells_eq]; exact s1)]
          rfl
    · cases hc
  · cases hc

theorem foldlM_run {f : Value → Value → Sem Value} {fl : LV → LV → Option LV} (hf : ∀ x y v, fl x y = some v → (f (x.toV ρ) (y.toV ρ)).run P w = .ok (v.toV ρ) w) :
    ∀ (l : List LV) (x v : LV), l.foldlM fl x = some v → ((toVs ρ l).foldlM f (x.toV ρ)).run P w = .ok (v.toV ρ) w := by
  intro l
  induction l with
  | nil => intro x v h; simp at h; subst h; rfl
  | cons y l ih =>
    intro x v h
    simp only [List.foldlM_cons, Option.bind_eq_bind, Option.bind_eq_some_iff] at h
    obtain ⟨u, h1, h2⟩ := h
    simp only [toVs, List.foldlM_cons]
    rw [run_bind_ok (hf x y u h1)]
    exact ih u v h2
theorem foldL_ok {fl : LV → LV → Option LV} (hf : ∀ x y v, fl x y = some v → v.ok ρ g.next) : ∀ (l : List LV) (x v : LV), x.ok ρ g.next → l.foldlM fl x = some v → v.ok ρ g.next := by
  intro l
  induction l with
  | nil => intro x v hx h; simp at h; subst h; exact hx
  | cons y l ih =>
    intro x v _ h
    simp only [List.foldlM_cons, Option.bind_eq_bind, Option.bind_eq_some_iff] at h
    obtain ⟨u, h1, h2⟩ := h
    exact ih u v (hf x y u h1) h2
theorem max2_run {x y v : LV} (h : max2L x y = some v) : (Builtin.max2 (x.toV ρ) (y.toV ρ)).run P w = .ok (v.toV ρ) w ∧ ∀ n, v.ok ρ n := by
  unfold max2L at h
  split at h
  · cases h; exact ⟨rfl, fun n => by simp [LV.ok]⟩
  · cases h
theorem min2_run {x y v : LV} (h : min2L x y = some v) : (Builtin.min2 (x.toV ρ) (y.toV ρ)).run P w = .ok (v.toV ρ) w ∧ ∀ n, v.ok ρ n := by
  unfold min2L at h
  split at h
  · cases h; exact ⟨rfl, fun n => by simp [LV.ok]⟩
  · cases h

/-! ### The built-ins -/
theorem sim_builtin {b : Builtin} {ts : Array TypeId} {args : List LV} {v : LV} {g' : LHeap} {ty : TypeId} {cs : Array Bool} (h : Rel W keep ρ g w) (hok : oks ρ g.next args) (hb : builtinL P b ts.toList args g = some (v, g')) :
    ∃ ρ' w', (builtin b ts ty cs (toVs ρ args).toArray).run P w = .ok (.value (v.toV ρ')) w' ∧ Post W keep ρ g v g' ρ' w' := by
  have lift : ∀ (s : Sem Value) (ρ' : Ren) (w' : World), s.run P w = .ok (v.toV ρ') w' → ((do pure (.value (← s)) : Sem Next)).run P w = .ok (.value (v.toV ρ')) w' := fun s ρ' w' e => by rw [run_bind_ok e]; rfl
  have first : ∀ {t : TypeId} {l : List TypeId}, ts.toList = t :: l → ts[0]? = some t := fun e => by rw [← Array.getElem?_toList, e]; rfl
  have second : ∀ {t t2 : TypeId} {l : List TypeId}, ts.toList = t :: t2 :: l → ts[1]? = some t2 := fun e => by rw [← Array.getElem?_toList, e]; rfl
  unfold builtinL at hb
  split at hb
  · unfold appendT at hb
    split at hb
    · rename_i t t2 s x hts
      split at hb
      · rename_i et d hel hu
        split at hb
        · cases hb
        · rename_i i hi hd2
          split at hb
          · rename_i z hz
            split at hb
            · cases hb
            · rename_i hc
              have hc : i.size ≠ 0 ∧ i.bytes ≠ 0 ∧ z.cells.size = i.size ∧ (x.isStr = true → i.size = 1) := by
                refine ⟨fun e => hc (.inl e), fun e => hc (.inr (.inl e)), Classical.byContradiction fun e => hc (.inr (.inr (.inl e))), fun e => Classical.byContradiction fun e2 => hc (.inr (.inr (.inr ⟨e, e2⟩)))⟩
              obtain ⟨c1, c2, c3, c4⟩ := hc
              obtain ⟨ρ', w', r1, r2⟩ := sim_append (P := P) (ty := ty) h hok.1 hok.2.1 (fun ⟨b, e⟩ => c4 (by rw [e]; rfl)) (first hts) (second hts) hel hu (fun k e => hd2 k (by rw [e])) hi hz c3 rfl (by omega) c2 hb
              exact ⟨ρ', w', lift _ _ _ r1, r2⟩
          · cases hb
        · cases hb
      · cases hb
    · cases hb
  · unfold copyT at hb
    split at hb
    · rename_i t l d x hts
      split at hb
      · rename_i et hel
        split at hb
        · rename_i e hz
          split at hb
          · cases hb
          · rename_i he
            obtain ⟨ρ', w', r1, r2⟩ := sim_copy (P := P) (ty := ty) h hok.1 hok.2.1 (fun ⟨b, e'⟩ => Classical.byContradiction fun e2 => he (.inr ⟨by rw [e']; rfl, e2⟩)) (first hts) hel hz hb
            exact ⟨ρ', w', lift _ _ _ r1, r2⟩
        · cases hb
      · cases hb
    · cases hb
  · split at hb
    · rename_i t l x xs hts
      obtain ⟨u, hu, heq⟩ := Option.map_eq_some_iff.1 hb
      cases heq
      obtain ⟨r1, r2⟩ := sim_len (P := P) (ty := ty) (rest := toVs ρ xs) h (first hts) hu
      exact ⟨ρ, w, lift _ _ _ r1, Post.same h r2⟩
    · cases hb
  · split at hb
    · rename_i t l x k hts
      obtain ⟨g1, hg1, heq⟩ := Option.map_eq_some_iff.1 hb
      cases heq
      obtain ⟨w', r1, r2, r3⟩ := sim_delete (P := P) (ty := ty) h (first hts) hg1
      exact ⟨ρ, w', lift _ ρ w' r1, Ren.Ext.refl _ _, r2, by simp [LV.ok, undefL, oks], by rw [r3]; exact Nat.le_refl _⟩
    · cases hb
  · split at hb
    · rename_i t l x hts
      obtain ⟨g1, hg1, heq⟩ := Option.map_eq_some_iff.1 hb
      cases heq
      obtain ⟨w', r1, r2, r3⟩ := sim_clear (P := P) (ty := ty) h (first hts) hg1
      exact ⟨ρ, w', lift _ ρ w' r1, Ren.Ext.refl _ _, r2, by simp [LV.ok, undefL, oks], by rw [r3]; exact Nat.le_refl _⟩
    · cases hb
  · obtain ⟨u, hu, heq⟩ := Option.map_eq_some_iff.1 hb
    cases heq
    cases args with
    | nil => simp [foldL] at hu
    | cons x xs =>
      refine ⟨ρ, w, lift _ _ _ ?_, Post.same h (foldL_ok (fun x y v hv => (max2_run (P := P) (w := w) hv).2 _) xs x _ hok.1 hu)⟩
      exact foldlM_run (fun x y v hv => (max2_run hv).1) xs x _ hu
  · obtain ⟨u, hu, heq⟩ := Option.map_eq_some_iff.1 hb
    cases heq
    cases args with
    | nil => simp [foldL] at hu
    | cons x xs =>
      refine ⟨ρ, w, lift _ _ _ ?_, Post.same h (foldL_ok (fun x y v hv => (min2_run (P := P) (w := w) hv).2 _) xs x _ hok.1 hu)⟩
      exact foldlM_run (fun x y v hv => (min2_run hv).1) xs x _ hu
  · cases hb

end Go.Lm
