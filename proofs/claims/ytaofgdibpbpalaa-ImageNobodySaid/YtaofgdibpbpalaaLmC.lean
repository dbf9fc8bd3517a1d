/-
  The logical machine, part C: what each operation does, as plain functions on logical values and heaps; the code's meaning as a predicate.
-/
import Derived.Test.YtaofgdibpbpalaaLmB
import GoSem.Dispatch
namespace Go.Lm

structure LSt where
  tm : Nat → LV
  g : LHeap

def undefL : LV := .tuple []
def putL (tm : Nat → LV) (dst : Option Nat) (v : LV) : Nat → LV :=
  match dst with
  | some d => fun i => if Nat.beq i d then v else tm i
  | none => tm
def constL (v : Value) : LV := (ofV 6 v).getD undefL
def evL (tm : Nat → LV) : Operand → LV
  | .tmp t => tm t
  | .const v => constL v
  | .global _ => undefL
  | .func f => .func (.func f) [] []

/-! ### What is asked of types -/
section types
variable (P : Program)
def infoL (t : TypeId) : Option TypeInfo := P.info? t
/-- none: no such type; some none: one cell; some (some n): a struct or an array of n cells -/
def aggN (t : TypeId) : Option (Option Nat) :=
  match P.underlying t, P.info? t with
  | some d, some i => some (if isAggD d then some i.size else none)
  | _, _ => none
def sizeL (t : TypeId) : Option Nat := (P.info? t).map (·.size)
def zeroL (t : TypeId) : Option LV :=
  match P.info? t with
  | some i => match i.zero with
    | some v => ofV 6 v
    | none => none
  | none => none
def fieldL (s : TypeId) (f : Nat) : Option Field :=
  match P.underlying s with
  | some (.struct fs) => fs[f]?
  | _ => none
def fieldOff (s : TypeId) (f : Nat) : Option Nat :=
  match fieldL P s f with
  | some fd => match sizeL P fd.type with
    | some 0 => none
    | some _ => some fd.offset
    | none => none
  | none => none
def sliceElem (t : TypeId) : Option TypeId :=
  match P.underlying t with
  | some (.slice e) => some e
  | _ => none
/-- an array's length (none: a slice), the cells of an element -/
def ixShape (t : TypeId) : Option (Option Nat × Nat) :=
  match P.underlying t with
  | some (.array n e) => (sizeL P e).map fun z => (some n, z)
  | some (.slice e) => (sizeL P e).map fun z => (none, z)
  | _ => none
def mapShape (t : TypeId) : Option (TypeId × TypeId) :=
  match P.underlying t with
  | some (.map k e) => some (k, e)
  | _ => none
def intKindL (t : TypeId) : Option IntKind :=
  match P.underlying t with
  | some (.int k) => some k
  | _ => none
end types

/-! ### Values -/
def LV.cellsOK (v : LV) : Bool := v.cells.all LV.cell
def newL (v : LV) (g : LHeap) : Option (LV × LHeap) := if v.cellsOK then some (.ptr g.next 0, g.alloc (.cells v.cells .ex)) else none
def partL (n : Option Nat) (cs : List LV) (off : Nat) : Option LV :=
  match n with
  | some n => some (.agg ((cs.drop off).take n))
  | none => cs[off]?
def loadV (n : Option Nat) (x : LV) (g : LHeap) : Option LV :=
  match x with
  | .ptr a off =>
    match g.get a with
    | some (.cells vs _) =>
      match n with
      | none => vs[off]?
      | some n => if off + n ≤ vs.length then some (.agg ((vs.drop off).take n)) else none
    | _ => none
  | _ => none
def loadT (P : Program) (t : TypeId) (x : LV) (g : LHeap) : Option LV :=
  match aggN P t with
  | some n => loadV n x g
  | none => none
def storeCellsL (a off : Nat) (new : List LV) (g : LHeap) : Option LHeap :=
  match g.get a with
  | some (.cells vs own) => if own ≠ .ro ∧ off + new.length ≤ vs.length ∧ new.all LV.cell = true then some (g.set a (.cells (splice vs off new) own)) else none
  | _ => none
def storeV (n : Nat) (x v : LV) (g : LHeap) : Option LHeap :=
  match x with
  | .ptr a off => if v.cells.length = n then storeCellsL a off v.cells g else none
  | _ => none
def storeT (P : Program) (t : TypeId) (x v : LV) (g : LHeap) : Option LHeap :=
  match sizeL P t with
  | some n => storeV n x v g
  | none => none
def pickL (c a b : LV) : Option LV :=
  match c with
  | .bool true => some a
  | .bool false => some b
  | _ => none
def nilCheckL (x : LV) : Option LV :=
  match x with
  | .ptr a off => some (.ptr a off)
  | .iface t v => some (.iface t v)
  | .func (.func f) first caps => some (.func (.func f) first caps)
  | _ => none
def fieldAddrL (o : Nat) (x : LV) : Option LV :=
  match x with
  | .ptr a off => some (.ptr a (off + o))
  | _ => none
def fieldAddrT (P : Program) (s : TypeId) (f : Nat) (x : LV) : Option LV :=
  match fieldOff P s f with
  | some o => fieldAddrL o x
  | none => none
def fieldVL (n : Option Nat) (o : Nat) (x : LV) : Option LV :=
  match x with
  | .agg cs => partL n cs o
  | _ => none
def fieldVT (P : Program) (s : TypeId) (f : Nat) (x : LV) : Option LV :=
  match fieldL P s f with
  | some fd => match aggN P fd.type with
    | some n => fieldVL n fd.offset x
    | none => none
  | none => none
def ixAddrL (len : Option Nat) (sz : Nat) (x ix : LV) : Option LV :=
  match ix with
  | .int _ i =>
    match len, x with
    | some n, .ptr a off => if 0 ≤ i ∧ i < n then some (.ptr a (off + i.toNat * sz)) else none
    | none, .slice a off l _ => if 0 ≤ i ∧ i < l then some (.ptr a (off + i.toNat * sz)) else none
    | _, _ => none
  | _ => none
def ixAddrT (P : Program) (t : TypeId) (x ix : LV) : Option LV :=
  match ixShape P t with
  | some (len, sz) => ixAddrL len sz x ix
  | none => none
def ixStrL (x ix : LV) : Option LV :=
  match ix, x with
  | .int _ i, .str s => if 0 ≤ i then (s[i.toNat]?).map fun b => .int .u8 b.toNat else none
  | _, _ => none
def ixAggL (len sz : Nat) (n : Option Nat) (x ix : LV) : Option LV :=
  match ix, x with
  | .int _ i, .agg cs => if 0 ≤ i ∧ i < len then partL n cs (i.toNat * sz) else none
  | _, _ => none
def indexT (P : Program) (t : TypeId) (x ix : LV) : Option LV :=
  match P.underlying t with
  | some .string => ixStrL x ix
  | some (.array len e) => match aggN P e, sizeL P e with
    | some n, some sz => ixAggL len sz n x ix
    | _, _ => none
  | _ => none
def intL : LV → Option Int
  | .int _ n => some n
  | _ => none
/-- A slice's cut from l to h (hs: h is written out), the capacity's end where it is given; e: the cells of an element. -/
def cutS (e a off len lim : Nat) (cap : Cap) (l h : Int) (hs : Bool) (mx : Option Int) : Option LV :=
  match mx, cap with
  | some m, .ex c => if hs = true ∧ h ≤ m ∧ m ≤ c then some (.slice a (if m = l then off else off + l.toNat * e) (h - l).toNat (.ex (m - l).toNat)) else none
  | none, .ex c => if h ≤ c then some (.slice a (if (c : Int) = l then off else off + l.toNat * e) (h - l).toNat (.ex (c - l).toNat)) else none
  | some m, .op e' => if hs = true ∧ h ≤ m ∧ m ≤ len ∧ e' = e then some (.slice a (if m = l then off else off + l.toNat * e) (h - l).toNat (.ex (m - l).toNat)) else none
  | none, .op e' => if h ≤ max len lim ∧ e' = e then
      (if l < max len lim then some (.slice a (off + l.toNat * e) (h - l).toNat (.op e)) else some (.tail a (off + l.toNat * e) off e false)) else none
def cutL (e : Nat) (x : LV) (lo hi mx : Option Int) (lim : Nat) : Option LV :=
  match x with
  | .nils => if (lo.getD 0 = 0) ∧ (hi.getD 0 = 0) ∧ (mx.getD 0 = 0) ∧ (mx.isSome → hi.isSome) then some .nils else none
  | .slice a off len cap => if 0 ≤ lo.getD 0 ∧ lo.getD 0 ≤ hi.getD len then cutS e a off len lim cap (lo.getD 0) (hi.getD len) hi.isSome mx else none
  | .tail a off alt e' z =>
    if lo.getD 0 = 0 ∧ hi.getD 0 = 0 ∧ mx.getD 0 = 0 ∧ (mx.isSome → hi.isSome) then some (.tail a off alt e' (z || mx.isSome)) else none
  | _ => none
def cutStrL (x : LV) (lo hi : Option Int) : Option LV :=
  match x with
  | .str s => if 0 ≤ lo.getD 0 ∧ lo.getD 0 ≤ hi.getD s.length ∧ hi.getD s.length ≤ s.length then some (.str ((s.take (hi.getD s.length).toNat).drop (lo.getD 0).toNat)) else none
  | _ => none
/-- of an array's address -/
def cutArrL (n e : Nat) (x : LV) (lo hi mx : Option Int) : Option LV :=
  match x with
  | .ptr a off =>
    if 0 ≤ lo.getD 0 ∧ lo.getD 0 ≤ hi.getD n ∧ hi.getD n ≤ mx.getD n ∧ mx.getD n ≤ n ∧ (mx.isSome → hi.isSome) then
      some (.slice a (if mx.getD n = lo.getD 0 then off else off + (lo.getD 0).toNat * e) (hi.getD n - lo.getD 0).toNat (.ex (mx.getD n - lo.getD 0).toNat)) else none
  | _ => none
def optInt (x : Option LV) : Option (Option Int) :=
  match x with
  | none => some none
  | some v => (intL v).map some
/-- How many elements are known to be room behind a slice's beginning. -/
def limL (x : LV) (g : LHeap) : Nat :=
  match x with
  | .slice a off _ (.op e) => match g.get a with
    | some (.cells vs .op) => (vs.length - off) / e
    | _ => 0
  | _ => 0
def cutT (P : Program) (t : TypeId) (x : LV) (lo hi mx : Option LV) (lim : Nat) : Option LV :=
  match optInt lo, optInt hi, optInt mx with
  | some lo, some hi, some mx =>
    match P.underlying t with
    | some .string => if mx.isSome then none else cutStrL x lo hi
    | some (.slice e) => match sizeL P e with
      | some z => if z = 0 then none else cutL z x lo hi mx lim
      | none => none
    | some (.array n e) => match sizeL P e with
      | some z => cutArrL n z x lo hi mx
      | none => none
    | _ => none
  | _, _, _ => none

/-- What a pure operation of the model yields, where that is a number, a bool or a text. -/
def ofPure : Sem Value → Option LV
  | .pure (.int k n) => some (.int k n)
  | .pure (.bool b) => some (.bool b)
  | .pure (.string s) => some (.str s.data.toList)
  | _ => none

/-! ### Equality -/
mutual
def eqTy (P : Program) : Nat → TypeId → LV → LV → Option Bool
  | 0, _, _, _ => none
  | d + 1, t, x, y =>
    match P.underlying t, x, y with
    | some .bool, .bool a, .bool b => some (a == b)
    | some (.int _), .int k a, .int k' b => if k = k' then some (a == b) else none
    | some .string, .str a, .str b => some (a == b)
    | some (.pointer _), .nilp, .nilp => some true
    | some (.pointer _), .nilp, .ptr _ _ => some false
    | some (.pointer _), .ptr _ _, .nilp => some false
    | some (.interface _), .nili, .nili => some true
    | some (.interface _), .nili, .iface _ _ => some false
    | some (.interface _), .iface _ _, .nili => some false
    | some (.interface _), .iface tx vx, .iface ty vy =>
      if tx ≠ ty then some false else
      match P.info? tx with
      | some i => if i.comparable then eqTy P d tx vx vy else none
      | none => none
    | some (.struct fields), .agg xs, .agg ys => if P.stoodInHeld t then none else eqFields P d fields.toList xs ys
    | some (.array len e), .agg xs, .agg ys =>
      match aggN P e, sizeL P e with
      | some n, some z => eqElems P d e n z xs ys (List.range len)
      | _, _ => none
    | some (.slice _), .nils, .nils => some true
    | some (.slice _), .nils, .slice _ _ _ _ => some false
    | some (.slice _), .nils, .tail _ _ _ _ _ => some false
    | some (.slice _), .slice _ _ _ _, .nils => some false
    | some (.slice _), .tail _ _ _ _ _, .nils => some false
    | some (.map _ _), .nilm, .nilm => some true
    | some (.map _ _), .nilm, .map _ => some false
    | some (.map _ _), .map _, .nilm => some false
    | some (.func _ _ _), .nilf, .nilf => some true
    | some (.func _ _ _), .nilf, .func _ _ _ => some false
    | some (.func _ _ _), .func _ _ _, .nilf => some false
    | _, _, _ => none
def eqFields (P : Program) : Nat → List Field → List LV → List LV → Option Bool
  | 0, _, _, _ => none
  | _ + 1, [], _, _ => some true
  | d + 1, f :: fs, xs, ys =>
    if f.name = "_" then eqFields P d fs xs ys else
    match aggN P f.type with
    | some n => match partL n xs f.offset, partL n ys f.offset with
      | some a, some b => match eqTy P d f.type a b with
        | some true => eqFields P d fs xs ys
        | some false => some false
        | none => none
      | _, _ => none
    | none => none
def eqElems (P : Program) : Nat → TypeId → Option Nat → Nat → List LV → List LV → List Nat → Option Bool
  | 0, _, _, _, _, _, _ => none
  | _ + 1, _, _, _, _, _, [] => some true
  | d + 1, e, n, z, xs, ys, i :: is =>
    match partL n xs (i * z), partL n ys (i * z) with
    | some a, some b => match eqTy P d e a b with
      | some true => eqElems P d e n z xs ys is
      | some false => some false
      | none => none
    | _, _ => none
end
/-- lit: one of the two is written out. -/
def eqL (P : Program) (t : TypeId) (lit : Bool) (x y : LV) : Option Bool :=
  match x, y with
  | .agg _, .agg _ => if P.eqGuardType P.depth t then none else eqTy P 60 t x y
  | .nili, .nili => if lit then eqTy P 60 t x y else none
  | _, _ => eqTy P 60 t x y
def strBin (op : BinOp) (a b : List UInt8) : Option LV :=
  match op with
  | .add => if ((a.length + b.length : Nat) : Int) > IntKind.i64.max then none else some (.str (a ++ b))
  | .eql => some (.bool (a == b))
  | .neq => some (.bool !(a == b))
  | .lss => some (.bool (Op.bytesLess a b))
  | .leq => some (.bool (Op.bytesLess a b || a == b))
  | .gtr => some (.bool !(Op.bytesLess a b || a == b))
  | .geq => some (.bool !(Op.bytesLess a b))
  | _ => none
def isConstO : Operand → Bool
  | .const _ => true
  | _ => false
def binL (P : Program) (op : BinOp) (t : TypeId) (lit : Bool) (x y : LV) : Option LV :=
  match x, y with
  | .int k a, .int k' b => ofPure (binOp op t (.int k a) (.int k' b))
  | .str a, .str b => strBin op a b
  | x, y =>
    match op with
    | .eql => (eqL P t lit x y).map .bool
    | .neq => (eqL P t lit x y).map fun b => .bool !b
    | _ => none
def unL (op : UnOp) (x : LV) : Option LV :=
  match x with
  | .int k n => ofPure (Op.unary op (.int k n))
  | .bool b => ofPure (Op.unary op (.bool b))
  | _ => none

/-! ### Maps -/
def findL (P : Program) (t : TypeId) (k : LV) : List (LV × LV × Nat) → Nat → Option (Option (Nat × LV))
  | [], _ => some none
  | e :: es, i =>
    match eqTy P 60 t k e.1 with
    | some true => some (some (i, e.2.1))
    | some false => findL P t k es (i + 1)
    | none => none
/-- The very same key. -/
def same1 : LV → LV → Bool
  | .bool a, .bool b => a == b
  | .int j a, .int k b => j == k && a == b
  | .str a, .str b => a == b
  | _, _ => false
def sames : List LV → List LV → Bool
  | [], [] => true
  | x :: xs, y :: ys => same1 x y && sames xs ys
  | _, _ => false
def sameL : LV → LV → Bool
  | .agg a, .agg b => sames a b
  | a, b => same1 a b
def checkKeyL (P : Program) : Nat → TypeId → LV → Bool
  | 0, _, _ => false
  | d + 1, t, v =>
    match P.underlying t, v with
    | some .bool, .bool _ | some (.int _), .int _ _ | some .string, .str _ => true
    | some (.struct fs), .agg cs => fs.all fun f => match aggN P f.type with
      | some n => match partL n cs f.offset with
        | some x => checkKeyL P d f.type x
        | none => false
      | none => false
    | some (.array len e), .agg cs =>
      match aggN P e, sizeL P e with
      | some n, some z => (List.range len).all fun i => match partL n cs (i * z) with
        | some x => checkKeyL P d e x
        | none => false
      | _, _ => false
    | _, _ => false
def lookupL (P : Program) (t : TypeId) (x k : LV) (commaOk : Bool) (g : LHeap) : Option LV :=
  match mapShape P t with
  | some (kt, et) =>
    if checkKeyL P 60 kt k then
      let es : Option (List (LV × LV × Nat)) := match x with
        | .nilm => some []
        | .map a => match g.get a with
          | some (.map es _ _) => some es
          | _ => none
        | _ => none
      match es with
      | some es =>
        match findL P kt k es 0 with
        | some (some (_, v)) => some (if commaOk then .tuple [v, .bool true] else v)
        | some none => match zeroL P et with
          | some z => some (if commaOk then .tuple [z, .bool false] else z)
          | none => none
        | none => none
      | none => none
    else none
  | none => none
def setAt (es : List (LV × LV × Nat)) (i : Nat) (k v : LV) : Option (List (LV × LV × Nat)) :=
  match es[i]? with
  | some e => if sameL e.1 k then some (es.set i (k, v, e.2.2)) else none
  | none => none
def mapSetL (P : Program) (t : TypeId) (x k v : LV) (g : LHeap) : Option LHeap :=
  match mapShape P t, x with
  | some (kt, _), .map a =>
    match g.get a with
    | some (.map es clock own) =>
      if own ≠ .ro ∧ checkKeyL P 60 kt k = true then
        match findL P kt k es 0 with
        | some (some (i, _)) => (setAt es i k v).map fun es' => g.set a (.map es' clock own)
        | some none => some (g.set a (.map (es ++ [(k, v, clock)]) (clock + 1) own))
        | none => none
      else none
    | _ => none
  | _, _ => none
def mapEntryL (P : Program) (t : TypeId) (x k : LV) (g : LHeap) : Option (LV × LHeap) :=
  match mapShape P t, x with
  | some (kt, et), .map a =>
    match g.get a with
    | some (.map es clock own) =>
      if own ≠ .ro ∧ checkKeyL P 60 kt k = true then
        match findL P kt k es 0 with
        | some (some (i, v)) => match es[i]? with
          | some e => (setAt es i k v).map fun es' => (.tuple [v, .int .i64 e.2.2], g.set a (.map es' clock own))
          | none => none
        | some none => match zeroL P et with
          | some z => some (.tuple [z, .int .i64 clock], g.set a (.map (es ++ [(k, z, clock)]) (clock + 1) own))
          | none => none
        | none => none
      else none
    | _ => none
  | _, _ => none
def entryStoreL (x s v : LV) (g : LHeap) : Option LHeap :=
  match x, s with
  | .map a, .int _ n =>
    match g.get a with
    | some (.map es clock own) =>
      if own ≠ .ro then
        match es.findIdx? (fun e => ((e.2.2 : Nat) : Int) == n) with
        | some i => match es[i]? with
          | some e => some (g.set a (.map (es.set i (e.1, v, e.2.2)) clock own))
          | none => none
        | none => none
      else none
    | _ => none
  | _, _ => none
def deleteL (P : Program) (t : TypeId) (x k : LV) (g : LHeap) : Option LHeap :=
  match mapShape P t with
  | some (kt, _) =>
    if checkKeyL P 60 kt k then
      match x with
      | .nilm => some g
      | .map a =>
        match g.get a with
        | some (.map es clock own) =>
          if own ≠ .ro then
            match findL P kt k es 0 with
            | some (some (i, _)) => some (g.set a (.map (es.eraseIdx i) clock own))
            | some none => some g
            | none => none
          else none
        | _ => none
      | _ => none
    else none
  | none => none

/-! ### Slices that grow -/
def srcCells (e : Nat) (x : LV) (g : LHeap) : Option (Nat × List LV) :=
  match x with
  | .nils => some (0, [])
  | .tail _ _ _ _ _ => some (0, [])
  | .slice a off len _ =>
    match g.get a with
    | some (.cells vs _) => if off + len * e ≤ vs.length then some (len, (vs.drop off).take (len * e)) else none
    | _ => none
  | .str s => some (s.length, s.map fun b => .int .u8 b.toNat)
  | _ => none
def LV.isStr : LV → Bool
  | .str _ => true
  | _ => false
/-- bytes: of an element, by Go's own sizes -/
def appendL (e bytes : Nat) (s x : LV) (g : LHeap) : Option (LV × LHeap) :=
  match srcCells e x g, srcCells e s g with
  | some (n, new), some (sl, old) =>
    if s.isStr then none else
    if n = 0 then some (s, g) else
    if ¬ ((sl + n) * bytes * 2 ≤ 2 ^ 48) then none else
    match s with
    | .slice a off len cap =>
      match g.get a with
      | some (.cells vs own) =>
        match cap with
        | .ex c =>
          if len + n ≤ c then
            match storeCellsL a (off + len * e) new g with
            | some g' => some (.slice a off (len + n) (.ex c), g')
            | none => none
          else some (.slice g.next 0 (len + n) (.op e), g.alloc (.cells (old ++ new) .op))
        | .op e' =>
          if e' ≠ e ∨ own ≠ .op then none else
          if off + (len + n) * e ≤ vs.length then
            match storeCellsL a (off + len * e) new g with
            | some g' => some (.slice a off (len + n) (.op e), g')
            | none => none
          else some (.slice g.next 0 (len + n) (.op e), (g.erase a).alloc (.cells (old ++ new) .op))
      | _ => none
    | .tail a _ _ e' z =>
      if z then some (.slice g.next 0 n (.op e), g.alloc (.cells new .op)) else
      match g.get a with
      | some (.cells _ own) =>
        if e' ≠ e ∨ own ≠ .op then none else some (.slice g.next 0 n (.op e), (g.erase a).alloc (.cells new .op))
      | _ => none
    | .nils => some (.slice g.next 0 n (.op e), g.alloc (.cells new .op))
    | _ => none
  | _, _ => none
def appendT (P : Program) (ts : List TypeId) (args : List LV) (g : LHeap) : Option (LV × LHeap) :=
  match ts, args with
  | [t, t2], [s, x] =>
    match sliceElem P t, P.underlying t2 with
    | some et, some d => match P.info? et, d with
      | some _, .int _ => none
      | some i, _ => match i.zero with
        | some z => if i.size = 0 ∨ i.bytes = 0 ∨ z.cells.size ≠ i.size ∨ (x.isStr = true ∧ i.size ≠ 1) then none else appendL i.size i.bytes s x g
        | none => none
      | none, _ => none
    | _, _ => none
  | _, _ => none
def copyL (e : Nat) (d x : LV) (g : LHeap) : Option (LV × LHeap) :=
  match srcCells e x g with
  | some (n, new) =>
    match d with
    | .nils => some (.int .i64 0, g)
    | .tail _ _ _ _ _ => some (.int .i64 0, g)
    | .slice a off len _ =>
      match storeCellsL a off (new.take (min n len * e)) g with
      | some g' => some (.int .i64 (min n len : Nat), g')
      | none => none
    | _ => none
  | none => none
def copyT (P : Program) (ts : List TypeId) (args : List LV) (g : LHeap) : Option (LV × LHeap) :=
  match ts, args with
  | t :: _, [d, x] =>
    match sliceElem P t with
    | some et => match sizeL P et with
      | some e => if e = 0 ∨ (x.isStr = true ∧ e ≠ 1) then none else copyL e d x g
      | none => none
    | none => none
  | _, _ => none
def lenL (P : Program) (t : TypeId) (x : LV) (g : LHeap) : Option LV :=
  match P.underlying t, x with
  | some .string, .str s => some (.int .i64 s.length)
  | some (.array n _), _ => some (.int .i64 n)
  | some (.pointer a), _ => match P.underlying a with
    | some (.array n _) => some (.int .i64 n)
    | _ => none
  | some (.slice _), .nils => some (.int .i64 0)
  | some (.slice _), .tail _ _ _ _ _ => some (.int .i64 0)
  | some (.slice _), .slice _ _ len _ => some (.int .i64 len)
  | some (.map _ _), .nilm => some (.int .i64 0)
  | some (.map _ _), .map a => match g.get a with
    | some (.map es _ _) => some (.int .i64 es.length)
    | _ => none
  | _, _ => none
def clearL (P : Program) (t : TypeId) (x : LV) (g : LHeap) : Option LHeap :=
  match P.underlying t, x with
  | some _, .nilm => some g
  | some _, .nils => some g
  | some _, .tail _ _ _ _ _ => some g
  | some _, .map a => match g.get a with
    | some (.map _ clock own) => if own ≠ .ro then some (g.set a (.map [] clock own)) else none
    | _ => none
  | some (.slice e), .slice a off len _ =>
    match zeroL P e with
    | some z => if len = 0 then some g else storeCellsL a off (List.replicate len z.cells).flatten g
    | none => none
  | _, _ => none
def max2L : LV → LV → Option LV
  | .int k x, .int _ y => some (.int k (if y > x then y else x))
  | _, _ => none
def min2L : LV → LV → Option LV
  | .int k x, .int _ y => some (.int k (if y < x then y else x))
  | _, _ => none
def foldL (f : LV → LV → Option LV) : List LV → Option LV
  | [] => none
  | x :: xs => xs.foldlM f x
def builtinL (P : Program) (b : Builtin) (ts : List TypeId) (args : List LV) (g : LHeap) : Option (LV × LHeap) :=
  match b with
  | .append => appendT P ts args g
  | .copy => copyT P ts args g
  | .len => match ts, args with
    | t :: _, x :: _ => (lenL P t x g).map fun v => (v, g)
    | _, _ => none
  | .delete => match ts, args with
    | t :: _, [x, k] => (deleteL P t x k g).map fun g => (undefL, g)
    | _, _ => none
  | .clear => match ts, args with
    | t :: _, [x] => (clearL P t x g).map fun g => (undefL, g)
    | _, _ => none
  | .max => (foldL max2L args).map fun v => (v, g)
  | .min => (foldL min2L args).map fun v => (v, g)
  | _ => none

/-! ### What is made -/
def fillL (place : Nat → Option (Nat × Nat)) (cells : List LV) : List (Nat × LV) → Option (List LV)
  | [] => some cells
  | (i, v) :: rest =>
    match place i with
    | none => none
    | some (off, size) => if v.cells.length ≠ size ∨ off + size > cells.length then none else fillL place (splice cells off v.cells) rest
def structPlaces (P : Program) (fs : List Field) : Option (List (Nat × Nat)) :=
  fs.mapM fun f => (sizeL P f.type).map fun z => (f.offset, z)
def buildL (P : Program) (t : TypeId) (parts : List (Nat × LV)) : Option LV :=
  match zeroL P t, P.underlying t with
  | some z, some (.struct fs) =>
    match structPlaces P fs.toList with
    | some places => (fillL (places[·]?) z.cells parts).map .agg
    | none => none
  | some z, some (.array _ e) =>
    match sizeL P e with
    | some n => (fillL (fun i => some (i * n, n)) z.cells parts).map .agg
    | none => none
  | _, _ => none
def buildSliceL (P : Program) (t : TypeId) (len : Nat) (parts : List (Nat × LV)) (g : LHeap) : Option (LV × LHeap) :=
  match sliceElem P t with
  | some e =>
    match sizeL P e, zeroL P e with
    | some n, some z =>
      if len * n > 2 ^ 24 ∨ z.cells.length ≠ n then none else
      match fillL (fun i => some (i * n, n)) (List.replicate len z.cells).flatten parts with
      | some cells => if cells.all LV.cell then some (.slice g.next 0 len (.ex len), g.alloc (.cells cells .ex)) else none
      | none => none
    | _, _ => none
  | none => none
def makeSliceL (P : Program) (t : TypeId) (l c : LV) (g : LHeap) : Option (LV × LHeap) :=
  match sliceElem P t, l, c with
  | some e, .int _ l, .int _ c =>
    match P.info? e with
    | some i => match i.zero with
      | some z => match ofV 6 z with
        | some z =>
          if 0 ≤ l ∧ l ≤ c ∧ i.bytes * c ≤ 2 ^ 48 ∧ c < 2 ^ 62 ∧ z.cells.length = i.size ∧ z.cellsOK = true then
            some (.slice g.next 0 l.toNat (.ex c.toNat), g.alloc (.cells (List.replicate c.toNat z.cells).flatten .ex))
          else none
        | none => none
      | none => none
    | none => none
  | _, _, _ => none
def convL (P : Program) (src dst : TypeId) (x : LV) (g : LHeap) : Option (LV × LHeap) :=
  match P.underlying src, P.underlying dst with
  | some _, some (.int k) => match x with
    | .int _ n => some (.int k (k.wrap n), g)
    | _ => none
  | some .string, some (.slice e) => match P.underlying e, x with
    | some (.int .u8), .str s => if s.length < 2 ^ 62 then some (.slice g.next 0 s.length (.op 1), g.alloc (.cells (s.map fun b => .int .u8 b.toNat) .op)) else none
    | _, _ => none
  | some (.slice e), some .string => match P.underlying e with
    | some (.int .u8) => match x with
      | .nils => some (.str [], g)
      | .tail _ _ _ _ _ => some (.str [], g)
      | .slice a off len _ => match g.get a with
        | some (.cells vs _) =>
          if off + len ≤ vs.length then
            (((vs.drop off).take len).mapM fun (c : LV) => match c with | .int .u8 n => some (UInt8.ofNat n.toNat) | _ => none).map fun s => (.str s, g)
          else none
        | _ => none
      | _ => none
    | _ => none
  | some .string, some .string => match x with
    | .str s => some (.str s, g)
    | _ => none
  | some (.slice _), some (.slice e) => match P.underlying e, x with
    | some (.int .u8), .slice a _ _ _ => match g.get a with
      | some (.cells vs own) => if src = dst ∧ own ≠ .ro then some (x, g.set a (.cells vs .ro)) else none
      | _ => none
    | _, _ => none
  | _, _ => none
def ifaceL (P : Program) (t : TypeId) (x : LV) : Option LV :=
  match P.underlying t with
  | some (.interface _) => none
  | some _ => some (.iface t x)
  | none => none
def assertL (P : Program) (x : LV) (asserted : TypeId) (commaOk : Bool) : Option LV :=
  match P.underlying asserted, x with
  | some (.interface _), _ => none
  | some _, .nili => if commaOk then (zeroL P asserted).map fun z => .tuple [z, .bool false] else none
  | some _, .iface t v =>
    if t = asserted then some (if commaOk then .tuple [v, .bool true] else v)
    else if commaOk then (zeroL P asserted).map fun z => .tuple [z, .bool false] else none
  | _, _ => none
def extractL (x : LV) (i : Nat) : Option LV :=
  match x with
  | .tuple vs => vs[i]?
  | _ => none
def rangeL (P : Program) (t : TypeId) (x : LV) (g : LHeap) : Option (LV × LHeap) :=
  match P.underlying t, x with
  | some .string, .str s => some (.ptr g.next 0, g.alloc (.strIter s 0))
  | some (.map _ _), .nilm => some (.ptr g.next 0, g.alloc (.mapIter none 0 [] 0))
  | some (.map _ _), .map a => match g.get a with
    | some (.map _ clock _) => some (.ptr g.next 0, g.alloc (.mapIter (some a) clock [] clock))
    | _ => none
  | _, _ => none
def nextStrL (it : LV) (g : LHeap) : Option (LV × LHeap) :=
  match it with
  | .ptr r 0 => match g.get r with
    | some (.strIter s pos) =>
      if pos < s.length then
        some (.tuple [.bool true, .int .i64 pos, .int .i32 (Utf8.decode ⟨s.toArray⟩ pos).1], g.set r (.strIter s (pos + (Utf8.decode ⟨s.toArray⟩ pos).2)))
      else some (.tuple [.bool false], g)
    | _ => none
  | _ => none
def entryL (it : LV) (g : LHeap) : Option LV :=
  match it with
  | .ptr r 0 => match g.get r with
    | some (.mapIter (some m) _ seen stepped) => match seen.getLast?, g.get m with
      | some stamp, some (.map es clock _) =>
        if clock = stepped then
          match es.find? (fun e => e.2.2 == stamp) with
          | some e => some (.tuple [e.1, e.2.1])
          | none => none
        else none
      | _, _ => none
    | _ => none
  | _ => none
/-- A map's next entry: whichever of those that are left. -/
def nextMapL (it : LV) (g : LHeap) (K : LV → LHeap → Prop) : Prop :=
  match it with
  | .ptr r 0 => match g.get r with
    | some (.mapIter none _ _ _) => K (.tuple [.bool false]) g
    | some (.mapIter (some m) since seen last) => match g.get m with
      | some (.map es clock _) =>
        (!seen.isEmpty && !es.isEmpty && es.all (fun e => decide (e.2.2 ≥ last))) = false ∧
        ((es.filter fun e => !seen.contains e.2.2).filter (fun e => decide (e.2.2 < since)) = [] → K (.tuple [.bool false]) g) ∧
        ∀ e ∈ es, seen.contains e.2.2 = false → K (.tuple [.bool true, e.1, e.2.1]) (g.set r (.mapIter (some m) since (seen ++ [e.2.2]) clock))
      | _ => False
    | _ => False
  | _ => False

/-! ### Operations -/
def vK (o : Option LV) (K : LV → Prop) : Prop :=
  match o with
  | some v => K v
  | none => False
def gK (o : Option LHeap) (K : LHeap → Prop) : Prop :=
  match o with
  | some g => K g
  | none => False
def oK (o : Option (LV × LHeap)) (K : LV → LHeap → Prop) : Prop :=
  match o with
  | some r => K r.1 r.2
  | none => False
@[simp] theorem vK_some (v : LV) (K : LV → Prop) : vK (some v) K = K v := rfl
@[simp] theorem vK_none (K : LV → Prop) : vK none K = False := rfl
@[simp] theorem gK_some (v : LHeap) (K : LHeap → Prop) : gK (some v) K = K v := rfl
@[simp] theorem gK_none (K : LHeap → Prop) : gK none K = False := rfl
@[simp] theorem oK_some (v : LV) (g : LHeap) (K : LV → LHeap → Prop) : oK (some (v, g)) K = K v g := rfl
@[simp] theorem oK_none (K : LV → LHeap → Prop) : oK none K = False := rfl

abbrev CallSem := FuncId → List LV → LHeap → (LV → LHeap → Prop) → Prop
/-- The first place of a byte, or -1. -/
def idxB (c : UInt8) : List UInt8 → Nat → Int
  | [], _ => -1
  | b :: l, n => if b == c then n else idxB c l (n + 1)
/-- A function that has no body in the program: what it yields. -/
def extL (P : Program) (f : FuncId) (args : List LV) : Option LV :=
  match P.funcs[f]? with
  | some fn =>
    match fn.body with
    | some _ => none
    | none =>
      if fn.origin = "" then
        match args with
        | [.str s, .int .u8 c] =>
          if fn.name = "internal/bytealg.IndexByteString" then some (.int .i64 (idxB c.toNat.toUInt8 s 0))
          else if fn.name = "internal/bytealg.CountString" then some (.int .i64 (s.count c.toNat.toUInt8 : Nat))
          else none
        | _ => none
      else none
  | none => none
/-- A function value is called. -/
def callV (P : Program) (C : CallSem) (f : LV) (args : List LV) (g : LHeap) (K : LV → LHeap → Prop) : Prop :=
  match f with
  | .func (.func f) first caps =>
    match extL P f (first ++ args ++ caps) with
    | some v => K v g
    | none => C f (first ++ args ++ caps) g K
  | _ => False
/-- The method of a dynamic type: a function with a receiver, the value itself. -/
def methodL (P : Program) (t : TypeId) (name : String) : Option FuncId :=
  match P.info? t, P.underlying t with
  | some i, some (.pointer _) => match i.methods.find? (·.name == name) with
    | some m => if m.path.isEmpty then match m.func with
      | some (f, true) => some f
      | _ => none
      else none
    | none => none
  | _, _ => none
def opL (P : Program) (C : CallSem) (tm : Nat → LV) (o : Oper) (g : LHeap) (K : LV → LHeap → Prop) : Prop :=
  match o.op with
  | .move x | .assign x => K (evL tm x) g
  | .pick c a b => vK (pickL (evL tm c) (evL tm a) (evL tm b)) fun v => K v g
  | .alloc t => vK (zeroL P t) fun z => oK (newL z g) K
  | .box _ x => oK (newL (evL tm x) g) K
  | .build t parts => vK (buildL P t (parts.toList.map fun p => (p.1, evL tm p.2))) fun v => K v g
  | .buildSlice t len parts => oK (buildSliceL P t len (parts.toList.map fun p => (p.1, evL tm p.2)) g) K
  | .load t a => vK (loadT P t (evL tm a) g) fun v => K v g
  | .store t a x => gK (storeT P t (evL tm a) (evL tm x) g) fun g => K undefL g
  | .nilCheck x => vK (nilCheckL (evL tm x)) fun v => K v g
  | .binOp op t x y _ => vK (binL P op t (isConstO x || isConstO y) (evL tm x) (evL tm y)) fun v => K v g
  | .unOp op _ x => vK (unL op (evL tm x)) fun v => K v g
  | .convert s d x => oK (convL P s d (evL tm x) g) K
  | .makeInterface t x => vK (ifaceL P t (evL tm x)) fun v => K v g
  | .makeFunc fn first caps => K (.func fn (first.toList.map (evL tm)) (caps.toList.map (evL tm))) g
  | .makeMap _ none => K (.map g.next) (g.alloc (.map [] 0 .ex))
  | .makeSlice t l c => oK (makeSliceL P t (evL tm l) (evL tm c) g) K
  | .slice t x lo hi mx => vK (cutT P t (evL tm x) (lo.map (evL tm)) (hi.map (evL tm)) (mx.map (evL tm)) (limL (evL tm x) g)) fun v => K v g
  | .fieldAddr s x f => vK (fieldAddrT P s f (evL tm x)) fun v => K v g
  | .field s x f => vK (fieldVT P s f (evL tm x)) fun v => K v g
  | .indexAddr t x ix => vK (ixAddrT P t (evL tm x) (evL tm ix)) fun v => K v g
  | .index t x ix => vK (indexT P t (evL tm x) (evL tm ix)) fun v => K v g
  | .lookup t x k ok => vK (lookupL P t (evL tm x) (evL tm k) ok g) fun v => K v g
  | .mapUpdate t m k x | .insert t m k x => gK (mapSetL P t (evL tm m) (evL tm k) (evL tm x) g) fun g => K undefL g
  | .mapEntry t m k => oK (mapEntryL P t (evL tm m) (evL tm k) g) K
  | .entryStore _ m s x => gK (entryStoreL (evL tm m) (evL tm s) (evL tm x) g) fun g => K undefL g
  | .range t x => oK (rangeL P t (evL tm x) g) K
  | .next it true => oK (nextStrL (evL tm it) g) K
  | .next it false => nextMapL (evL tm it) g K
  | .entry it => vK (entryL (evL tm it) g) fun v => K v g
  | .typeAssert x _ t ok => vK (assertL P (evL tm x) t ok) fun v => K v g
  | .extract x i => vK (extractL (evL tm x) i) fun v => K v g
  | .call c =>
    match c.callee with
    | .builtin b => oK (builtinL P b c.argTypes.toList (c.args.toList.map (evL tm)) g) K
    | .value f => callV P C (evL tm f) (c.args.toList.map (evL tm)) g K
    | .invoke r name =>
      match evL tm r with
      | .iface t v => match methodL P t name with
        | some f => C f (v :: c.args.toList.map (evL tm)) g K
        | none => False
      | _ => False
  | _ => False

def yieldedL (ops : Array Oper) (tm : Nat → LV) (j : Nat) : Option Bool :=
  match (ops[j]?).bind (·.dst) with
  | some d => match tm d with
    | .bool b => some b
    | _ => none
  | none => none
/-- An operation in its region: it is left out where its guard says so. -/
def stepL (P : Program) (C : CallSem) (ops : Array Oper) (o : Oper) (st : LSt) (K : LSt → Prop) : Prop :=
  match o.guard with
  | none => opL P C st.tm o st.g fun v g => K ⟨putL st.tm o.dst v, g⟩
  | some (j, want) =>
    match (ops[j]?).bind (·.dst) with
    | none => False
    | some d =>
      match st.tm d with
      | .bool true => if want then opL P C (putL st.tm (some d) (.bool true)) o st.g fun v g => K ⟨putL (putL st.tm (some d) (.bool true)) o.dst v, g⟩
        else K ⟨putL (putL st.tm (some d) (.bool true)) o.dst undefL, st.g⟩
      | .bool false => if want then K ⟨putL (putL st.tm (some d) (.bool false)) o.dst undefL, st.g⟩
        else opL P C (putL st.tm (some d) (.bool false)) o st.g fun v g => K ⟨putL (putL st.tm (some d) (.bool false)) o.dst v, g⟩
      | .tuple [] => K ⟨putL st.tm o.dst undefL, st.g⟩
      | _ => False
def runL (P : Program) (C : CallSem) (ops : Array Oper) : List Oper → LSt → (LSt → Prop) → Prop
  | [], st, K => K st
  | o :: rest, st, K => stepL P C ops o st fun st' => runL P C ops rest st' K

/-- How a piece of code is left. -/
inductive LEx where
  | normal
  | exit (id : Nat)
  | ret
  deriving DecidableEq

/-- A loop: something that holds at each round's head, and a number that falls. -/
def loopL (body : LSt → (LEx → LSt → Prop) → Prop) (st : LSt) (K : LEx → LSt → Prop) : Prop :=
  ∃ (I : LSt → Prop) (μ : LSt → Nat), I st ∧ ∀ s, I s → body s fun e s' => match e with
    | .normal => I s' ∧ μ s' < μ s
    | e => K e s'

end Go.Lm
