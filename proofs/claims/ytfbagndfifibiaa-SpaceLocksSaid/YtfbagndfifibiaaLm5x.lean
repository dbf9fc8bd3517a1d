/-
  The logical machine: a deep reading of a program over numbered objects, proved sound once; parts m1 to m4.
-/
import Derived.Test.YtfbagndfifibiaaLm4x
set_option linter.all false
/-
  The logical machine, part 1: what each operation does, as equations by which a printed text is read.
-/
namespace Go.Lm

set_option linter.unusedSimpArgs false
variable {P : Program} {C : CallSem} {g : LHeap}

/-! ### Objects -/
def cellO (n : Option Nat) (off : Nat) : Option LObj → Option LV
  | some (.cells vs _) => match n with
    | none => vs[off]?
    | some n => if off + n ≤ vs.length then some (.agg ((vs.drop off).take n)) else none
  | _ => none
theorem load_o (n : Option Nat) (a off : Nat) (g : LHeap) : loadV n (.ptr a off) g = cellO n off (g.get a) := by
  cases h : g.get a with
  | none => simp [loadV, cellO, h]
  | some o => cases o <;> cases n <;> simp [loadV, cellO, h]
theorem cell_o (off : Nat) (vs : List LV) (own : Own) : cellO none off (some (.cells vs own)) = vs[off]? := rfl
theorem cells_o (k off : Nat) (vs : List LV) (own : Own) (h : off + k ≤ vs.length) : cellO (some k) off (some (.cells vs own)) = some (.agg ((vs.drop off).take k)) := if_pos h
/-- One cell is stored. -/
def stC (g : LHeap) (a : Nat) (own : Own) (ws : List LV) : Option LV → Option LHeap
  | some _ => if own ≠ .ro then some (g.set a (.cells ws own)) else none
  | none => none
def setO (g : LHeap) (a off : Nat) (x : LV) : Option LObj → Option LHeap
  | some (.cells vs own) => stC g a own (vs.set off x) vs[off]?
  | _ => none
theorem splice_one (vs : List LV) (off : Nat) (x : LV) (h : off < vs.length) : splice vs off [x] = vs.set off x := by
  unfold splice
  rw [List.set_eq_take_append_cons_drop, if_pos h]
  simp
theorem cells_one {x : LV} (h : x.cell = true) : x.cells = [x] := by cases x <;> first | rfl | cases h
theorem store_o {x : LV} (a off : Nat) (g : LHeap) (h : x.cell = true) : storeV 1 (.ptr a off) x g = setO g a off x (g.get a) := by
  simp only [storeV, cells_one h, List.length_cons, List.length_nil, Nat.zero_add, if_true, storeCellsL]
  cases hg : g.get a with
  | none => rfl
  | some o =>
    cases o with
    | cells vs own =>
      simp only [setO, List.length_cons, List.length_nil, Nat.zero_add, List.all_cons, List.all_nil, Bool.and_true]
      by_cases hl : off < vs.length
      · rw [splice_one vs off x hl, List.getElem?_eq_getElem hl]
        simp only [stC]
        by_cases ho : own = .ro
        · rw [if_neg (fun h => h.1 ho), if_neg (fun h => h ho)]
        · rw [if_pos ⟨ho, by omega, h⟩, if_pos ho]
      · rw [if_neg (fun h => hl (by omega)), List.getElem?_eq_none (by omega)]; rfl
    | _ => rfl
theorem set_o (vs : List LV) (own : Own) (a off : Nat) (x : LV) (g : LHeap) : setO g a off x (some (.cells vs own)) = stC g a own (vs.set off x) vs[off]? := rfl
theorem st_ex (g : LHeap) (a : Nat) (ws : List LV) (v : LV) : stC g a .ex ws (some v) = some (g.set a (.cells ws .ex)) := by simp [stC]
theorem st_op (g : LHeap) (a : Nat) (ws : List LV) (v : LV) : stC g a .op ws (some v) = some (g.set a (.cells ws .op)) := by simp [stC]
theorem st_o {g : LHeap} {a : Nat} {own : Own} (ws : List LV) (v : LV) (h : own ≠ .ro) : stC g a own ws (some v) = some (g.set a (.cells ws own)) := by simp [stC, h]
theorem get_set_eq (g : LHeap) (a : Nat) (o : LObj) : (g.set a o).get a = some o := by simp
theorem get_set_ne (g : LHeap) {a b : Nat} (o : LObj) (h : b ≠ a) : (g.set a o).get b = g.get b := by simp [h]
theorem get_alloc_eq (g : LHeap) (o : LObj) : (g.alloc o).get g.next = some o := by simp
theorem get_alloc_ne (g : LHeap) {b : Nat} (o : LObj) (h : b ≠ g.next) : (g.alloc o).get b = g.get b := by simp [h]
theorem get_erase_ne (g : LHeap) {a b : Nat} (h : b ≠ a) : (g.erase a).get b = g.get b := by simp [h]

/-! ### Cells -/
theorem cell_bool (b : Bool) : (LV.bool b).cell = true := rfl
theorem cell_int (k : IntKind) (n : Int) : (LV.int k n).cell = true := rfl
theorem cell_str (s : List UInt8) : (LV.str s).cell = true := rfl
theorem cell_ptr (a off : Nat) : (LV.ptr a off).cell = true := rfl
theorem cell_nilp : LV.nilp.cell = true := rfl
theorem cell_slice (a off len : Nat) (c : Cap) : (LV.slice a off len c).cell = true := rfl
theorem cell_tail (a off alt e : Nat) (z : Bool) : (LV.tail a off alt e z).cell = true := rfl
theorem cell_nils : LV.nils.cell = true := rfl
theorem cell_map (a : Nat) : (LV.map a).cell = true := rfl
theorem cell_nilm : LV.nilm.cell = true := rfl
theorem cell_func (f : Fn) (a b : List LV) : (LV.func f a b).cell = true := rfl
theorem cell_nilf : LV.nilf.cell = true := rfl
theorem cell_iface (t : TypeId) (v : LV) : (LV.iface t v).cell = true := rfl
theorem cell_nili : LV.nili.cell = true := rfl
theorem new_cell {v : LV} (g : LHeap) (h : v.cell = true) : newL v g = some (.ptr g.next 0, g.alloc (.cells [v] .ex)) := by
  unfold newL LV.cellsOK
  rw [cells_one h]
  simp [h]
theorem new_agg (cs : List LV) (g : LHeap) (h : ∀ v ∈ cs, v.cell = true) : newL (.agg cs) g = some (.ptr g.next 0, g.alloc (.cells cs .ex)) := by
  unfold newL
  rw [if_pos]
  · rfl
  · exact List.all_eq_true.2 h

/-! ### Plain operations -/
theorem nil_ptr (P : Program) (a off : Nat) : nilCheckP P (.ptr a off) = some (.ptr a off) := nr rfl
theorem nil_iface (P : Program) (t : TypeId) (v : LV) : nilCheckP P (.iface t v) = some (.iface t v) := nr rfl
theorem nil_func (P : Program) (f : FuncId) (a b : List LV) : nilCheckP P (.func (.func f) a b) = some (.func (.func f) a b) := nr rfl
theorem fld_ptr (o a off : Nat) : fieldAddrL o (.ptr a off) = some (.ptr a (off + o)) := nr rfl
theorem fld_agg (o : Nat) (cs : List LV) : fieldVL none o (.agg cs) = cs[o]? := nr rfl
theorem un_not (b : Bool) : unL .not (.bool b) = some (.bool !b) := by cases b <;> rfl
theorem ext_tuple (vs : List LV) (i : Nat) : extractL (.tuple vs) i = vs[i]? := nr rfl
theorem ix_slice {a off l : Nat} {c : Cap} {k : IntKind} (sz : Nat) {n : Int} (h0 : 0 ≤ n) (h : n < l) : ixAddrL none sz (.slice a off l c) (.int k n) = some (.ptr a (off + n.toNat * sz)) := if_pos ⟨h0, h⟩
theorem ix_nat {a off l : Nat} {c : Cap} {k : IntKind} (sz n : Nat) (h : n < l) : ixAddrL none sz (.slice a off l c) (.int k (n : Int)) = some (.ptr a (off + n * sz)) := if_pos ⟨by omega, by omega⟩
theorem ix_arr {a off len : Nat} {k : IntKind} (sz : Nat) {n : Int} (h0 : 0 ≤ n) (h : n < len) : ixAddrL (some len) sz (.ptr a off) (.int k n) = some (.ptr a (off + n.toNat * sz)) := if_pos ⟨h0, h⟩
theorem len_slice {t e : TypeId} (h : P.underlying t = some (.slice e)) (a off l : Nat) (c : Cap) (g : LHeap) : lenL P t (.slice a off l c) g = some (.int .i64 l) := by simp [lenL, h]
theorem len_nils {t e : TypeId} (h : P.underlying t = some (.slice e)) (g : LHeap) : lenL P t .nils g = some (.int .i64 0) := by simp [lenL, h]
theorem len_tail {t e : TypeId} (h : P.underlying t = some (.slice e)) (a off alt z : Nat) (b : Bool) (g : LHeap) : lenL P t (.tail a off alt z b) g = some (.int .i64 0) := by simp [lenL, h]
theorem len_map {t k e : TypeId} (h : P.underlying t = some (.map k e)) {a : Nat} {es : List (LV × LV × Nat)} {c : Nat} {own : Own} {g : LHeap} (hg : g.get a = some (.map es c own)) : lenL P t (.map a) g = some (.int .i64 es.length) := by simp [lenL, h, hg]
theorem b_len (t : TypeId) (x : LV) (h : LHeap) : builtinL P .len [t] [x] h = (lenL P t x h).map fun v => (v, h) := nr rfl
theorem b_append (ts : List TypeId) (xs : List LV) (h : LHeap) : builtinL P .append ts xs h = appendT P ts xs h := nr rfl
theorem b_delete (t : TypeId) (x k : LV) (h : LHeap) : builtinL P .delete [t] [x, k] h = (deleteL P t x k h).map fun g => (undefL, g) := nr rfl
theorem neg_dec (p : Prop) [Decidable p] : (!decide p) = decide (¬ p) := by by_cases h : p <;> simp [h]
theorem ifB_dec (p : Prop) [Decidable p] (A B : Prop) : ifB (.bool (decide p)) A B = if p then A else B := by by_cases h : p <;> simp [h]
theorem ifB_b (b : Bool) (A B : Prop) : ifB (.bool b) A B = if b = true then A else B := by cases b <;> simp
theorem dec_t {p : Prop} [Decidable p] (h : p) : decide p = true := by simp [h]
theorem dec_f {p : Prop} [Decidable p] (h : ¬ p) : decide p = false := by simp [h]
theorem lt_t {a b : Int} (h : a < b) : decide (a < b) = true := by simp [h]
theorem lt_f {a b : Int} (h : b ≤ a) : decide (a < b) = false := by simp; omega
theorem gt_t {a b : Int} (h : b < a) : decide (a > b) = true := by simp; omega
theorem gt_f {a b : Int} (h : a ≤ b) : decide (a > b) = false := by simp; omega
theorem le_t {a b : Int} (h : a ≤ b) : decide (a ≤ b) = true := by simp [h]
theorem le_f {a b : Int} (h : b < a) : decide (a ≤ b) = false := by simp; omega
theorem ge_t {a b : Int} (h : b ≤ a) : decide (a ≥ b) = true := by simp; omega
theorem ge_f {a b : Int} (h : a < b) : decide (a ≥ b) = false := by simp; omega
theorem eq_t {a b : Int} (h : a = b) : (a == b) = true := by simp [h]
theorem eq_f {a b : Int} (h : a ≠ b) : (a == b) = false := by simp [h]
theorem wrap_in {x : Int} (h0 : -9223372036854775808 ≤ x) (h : x < 9223372036854775808) : IntKind.i64.wrap x = x := IntWalk.i64_in _ ⟨by omega, by omega⟩
theorem gd_u (w : Bool) (g : LHeap) (op : (LV → LHeap → Prop) → Prop) (K : LV → LHeap → Prop) : gd undefL w g op K = K undefL g := nr rfl
theorem gdV_u (w : Bool) (x : Option LV) (K : LV → Prop) : gdV undefL w x K = K undefL := nr rfl
theorem gdD_u (w : Bool) (x : Option LV) (K : LV → Prop) (N : Prop) : gdD undefL w x K N = N := nr rfl
theorem callV_f {f : FuncId} {first caps as : List LV} {g : LHeap} {K : LV → LHeap → Prop} (h : extL P f (first ++ as ++ caps) = none) : callV P C (.func (.func f) first caps) as g K = C f (first ++ as ++ caps) g K := by simp only [callV, h]

/-! ### Is it nil? -/
theorem eq_of_ty {t : TypeId} {lit : Bool} {x y : LV} {b : Bool} (h : eqL P t lit x y = some b) (h1 : ∀ k a k' b, ¬ (x = .int k a ∧ y = .int k' b)) (h2 : ∀ a b, ¬ (x = .str a ∧ y = .str b)) :
    binL P .eql t lit x y = some (.bool b) ∧ binL P .neq t lit x y = some (.bool !b) := by
  unfold binL
  split
  · exact absurd ⟨rfl, rfl⟩ (h1 _ _ _ _)
  · exact absurd ⟨rfl, rfl⟩ (h2 _ _)
  · simp [h]
theorem nil_p {t e : TypeId} (h : P.underlying t = some (.pointer e)) (lit : Bool) : (∀ a off, binL P .eql t lit (.ptr a off) .nilp = some (.bool false) ∧ binL P .neq t lit (.ptr a off) .nilp = some (.bool true)) ∧ binL P .eql t lit .nilp .nilp = some (.bool true) ∧ binL P .neq t lit .nilp .nilp = some (.bool false) := by
  simp only [binL, eqL, eqTy, h]; simp
theorem nil_m {t k e : TypeId} (h : P.underlying t = some (.map k e)) (lit : Bool) : (∀ a, binL P .eql t lit (.map a) .nilm = some (.bool false) ∧ binL P .neq t lit (.map a) .nilm = some (.bool true)) ∧ binL P .eql t lit .nilm .nilm = some (.bool true) ∧ binL P .neq t lit .nilm .nilm = some (.bool false) := by
  simp only [binL, eqL, eqTy, h]; simp
theorem nil_s {t e : TypeId} (h : P.underlying t = some (.slice e)) (lit : Bool) : (∀ a off len c, binL P .eql t lit (.slice a off len c) .nils = some (.bool false) ∧ binL P .neq t lit (.slice a off len c) .nils = some (.bool true)) ∧
    (∀ a off alt z b, binL P .eql t lit (.tail a off alt z b) .nils = some (.bool false) ∧ binL P .neq t lit (.tail a off alt z b) .nils = some (.bool true)) ∧ binL P .eql t lit .nils .nils = some (.bool true) ∧ binL P .neq t lit .nils .nils = some (.bool false) := by
  simp only [binL, eqL, eqTy, h]; simp
theorem nil_f {t : TypeId} {a b c} (h : P.underlying t = some (.func a b c)) (lit : Bool) : (∀ f x y, binL P .eql t lit (.func f x y) .nilf = some (.bool false) ∧ binL P .neq t lit (.func f x y) .nilf = some (.bool true)) ∧ binL P .eql t lit .nilf .nilf = some (.bool true) ∧ binL P .neq t lit .nilf .nilf = some (.bool false) := by
  simp only [binL, eqL, eqTy, h]; simp

/-- What simp reads a text by, in one word. -/
theorem sh : ((∀ (v : LV) (K : LV → Prop), vK (some v) K = K v) ∧ (∀ (v : LHeap) (K : LHeap → Prop), gK (some v) K = K v) ∧ (∀ (v : LV) (h : LHeap) (K : LV → LHeap → Prop), oK (some (v, h)) K = K v h) ∧
    (∀ (v : LV) (h : LHeap) (K : LV → LHeap → Prop), mkK v h K = K v h) ∧ (∀ A B, ifB (.bool true) A B = A) ∧ (∀ A B, ifB (.bool false) A B = B)) ∧
    ((∀ g op K, gd (.bool true) true g op K = op K) ∧ (∀ g op K, gd (.bool false) true g op K = K undefL g) ∧ (∀ g op K, gd (.bool true) false g op K = K undefL g) ∧ (∀ g op K, gd (.bool false) false g op K = op K) ∧ (∀ w g op K, gd undefL w g op K = K undefL g)) ∧
    ((∀ x K, gdV (.bool true) true x K = vK x K) ∧ (∀ x K, gdV (.bool false) true x K = K undefL) ∧ (∀ x K, gdV (.bool true) false x K = K undefL) ∧ (∀ x K, gdV (.bool false) false x K = vK x K) ∧ (∀ w x K, gdV undefL w x K = K undefL)) ∧
    ((∀ x K N, gdD (.bool true) true x K N = vK x K) ∧ (∀ x K N, gdD (.bool false) true x K N = N) ∧ (∀ x K N, gdD (.bool true) false x K N = N) ∧ (∀ x K N, gdD (.bool false) false x K N = vK x K) ∧ (∀ w x K N, gdD undefL w x K N = N)) ∧
    ((∀ a b, pickL (.bool true) a b = some a) ∧ (∀ a b, pickL (.bool false) a b = some b)) :=
  ⟨⟨fun _ _ => rfl, fun _ _ => rfl, fun _ _ _ => rfl, fun _ _ _ => rfl, fun _ _ => rfl, fun _ _ => rfl⟩,
   ⟨gd_true, gd_false, gd_true', gd_false', gd_u⟩, ⟨gdV_true, gdV_false, gdV_true', gdV_false', gdV_u⟩, ⟨gdD_true, gdD_false, gdD_true', gdD_false', gdD_u⟩, ⟨fun _ _ => rfl, fun _ _ => rfl⟩⟩
theorem sh2 : ((∀ (P : Program) a off, nilCheckP P (.ptr a off) = some (.ptr a off)) ∧ (∀ (P : Program) t v, nilCheckP P (.iface t v) = some (.iface t v)) ∧ (∀ (P : Program) f a b, nilCheckP P (.func (.func f) a b) = some (.func (.func f) a b)) ∧ (∀ o a off, fieldAddrL o (.ptr a off) = some (.ptr a (off + o))) ∧
    (∀ o cs, fieldVL none o (.agg cs) = cs[o]?) ∧ (∀ b, unL .not (.bool b) = some (.bool !b)) ∧ (∀ vs i, extractL (.tuple vs) i = vs[i]?)) ∧
    ((∀ n a off g, loadV n (.ptr a off) g = cellO n off (g.get a)) ∧ (∀ off vs own, cellO none off (some (.cells vs own)) = vs[off]?) ∧ (∀ vs own a off x g, setO g a off x (some (.cells vs own)) = stC g a own (vs.set off x) vs[off]?) ∧ (∀ g a ws v, stC g a .ex ws (some v) = some (g.set a (.cells ws .ex))) ∧ (∀ g a ws v, stC g a .op ws (some v) = some (g.set a (.cells ws .op)))) ∧
    ((∀ g a o, LHeap.get (LHeap.set g a o) a = some o) ∧ (∀ g o, LHeap.get (LHeap.alloc g o) g.next = some o)) ∧
    ((∀ (f : LV → LV × LHeap) v, Option.map f (some v) = some (f v)) ∧ (∀ (x : LV) xs, (x :: xs)[0]? = some x) ∧ (∀ (x : LV) xs (i : Nat), (x :: xs)[i + 1]? = xs[i]?) ∧ (∀ (x y : LV) xs, (x :: xs).set 0 y = y :: xs) ∧ (∀ (x y : LV) xs (i : Nat), (x :: xs).set (i + 1) y = x :: xs.set i y) ∧ (∀ n : Nat, 0 + n = n) ∧ (∀ n : Nat, n + 0 = n)) ∧
    ((!true) = false ∧ (!false) = true ∧ decide True = true ∧ decide False = false) :=
  ⟨⟨fun _ _ _ => rfl, fun _ _ _ => rfl, fun _ _ _ _ => rfl, fun _ _ _ => rfl, fun _ _ => rfl, un_not, fun _ _ => rfl⟩, ⟨load_o, cell_o, set_o, st_ex, st_op⟩, ⟨get_set_eq, get_alloc_eq⟩,
   ⟨fun _ _ => rfl, fun _ _ => rfl, fun _ _ _ => by simp, fun _ _ _ => rfl, fun _ _ _ _ => rfl, Nat.zero_add, Nat.add_zero⟩, rfl, rfl, by simp, by simp⟩
theorem shs (a off : Nat) (g : LHeap) : (∀ b, storeV 1 (.ptr a off) (.bool b) g = setO g a off (.bool b) (g.get a)) ∧ (∀ k n, storeV 1 (.ptr a off) (.int k n) g = setO g a off (.int k n) (g.get a)) ∧ (∀ b, storeV 1 (.ptr a off) (.str b) g = setO g a off (.str b) (g.get a)) ∧
    (∀ b o, storeV 1 (.ptr a off) (.ptr b o) g = setO g a off (.ptr b o) (g.get a)) ∧ storeV 1 (.ptr a off) .nilp g = setO g a off .nilp (g.get a) ∧ (∀ b o l c, storeV 1 (.ptr a off) (.slice b o l c) g = setO g a off (.slice b o l c) (g.get a)) ∧
    (∀ b o l c z, storeV 1 (.ptr a off) (.tail b o l c z) g = setO g a off (.tail b o l c z) (g.get a)) ∧ storeV 1 (.ptr a off) .nils g = setO g a off .nils (g.get a) ∧ (∀ b, storeV 1 (.ptr a off) (.map b) g = setO g a off (.map b) (g.get a)) ∧
    storeV 1 (.ptr a off) .nilm g = setO g a off .nilm (g.get a) ∧ (∀ f x y, storeV 1 (.ptr a off) (.func f x y) g = setO g a off (.func f x y) (g.get a)) ∧ storeV 1 (.ptr a off) .nilf g = setO g a off .nilf (g.get a) ∧
    (∀ t v, storeV 1 (.ptr a off) (.iface t v) g = setO g a off (.iface t v) (g.get a)) ∧ storeV 1 (.ptr a off) .nili g = setO g a off .nili (g.get a) :=
  ⟨fun _ => store_o a off g rfl, fun _ _ => store_o a off g rfl, fun _ => store_o a off g rfl, fun _ _ => store_o a off g rfl, store_o a off g rfl, fun _ _ _ _ => store_o a off g rfl, fun _ _ _ _ _ => store_o a off g rfl, store_o a off g rfl, fun _ => store_o a off g rfl, store_o a off g rfl,
   fun _ _ _ => store_o a off g rfl, store_o a off g rfl, fun _ _ => store_o a off g rfl, store_o a off g rfl⟩
theorem shi (P : Program) (t : TypeId) (lit : Bool) (k : IntKind) (a b : Int) : binL P .lss t lit (.int k a) (.int k b) = some (.bool (decide (a < b))) ∧ binL P .leq t lit (.int k a) (.int k b) = some (.bool (decide (a ≤ b))) ∧ binL P .gtr t lit (.int k a) (.int k b) = some (.bool (decide (a > b))) ∧
    binL P .geq t lit (.int k a) (.int k b) = some (.bool (decide (a ≥ b))) ∧ binL P .eql t lit (.int k a) (.int k b) = some (.bool (a == b)) ∧ binL P .neq t lit (.int k a) (.int k b) = some (.bool (!(a == b))) ∧
    binL P .add t lit (.int k a) (.int k b) = some (.int k (k.wrap (a + b))) ∧ binL P .sub t lit (.int k a) (.int k b) = some (.int k (k.wrap (a - b))) ∧ binL P .mul t lit (.int k a) (.int k b) = some (.int k (k.wrap (a * b))) :=
  ⟨binL_lss_int t lit k a b, binL_leq_int t lit k a b, binL_gtr_int t lit k a b, binL_geq_int t lit k a b, binL_eql_int t lit k a b, binL_neq_int t lit k a b, binL_add_int t lit k a b, binL_sub_int t lit k a b, binL_mul_int t lit k a b⟩

end Go.Lm

/-
  The logical machine, part 2: heaps that are well formed; rows of values, what is appended to them; maps with keys of one kind.
-/
namespace Go.Lm

set_option linter.unusedSimpArgs false
variable {P : Program} {W : World} {keep : Nat → Prop} {ρ : Ren} {g : LHeap} {w : World}

/-! ### Objects are below the heap's end -/
def LV.obj : LV → Option Nat
  | .ptr a _ | .slice a _ _ _ | .tail a _ _ _ _ | .map a => some a
  | _ => none
def LV.objs : LV → List Nat
  | .agg cs => cs.filterMap LV.obj
  | .tuple cs => cs.filterMap LV.obj
  | v => v.obj.toList
structure LHeap.Wf (g : LHeap) : Prop where
  lt : ∀ a o, g.get a = some o → a < g.next
  cells : ∀ a vs own, g.get a = some (.cells vs own) → ∀ v ∈ vs, ∀ b, v.obj = some b → b < g.next
  map : ∀ a es c own, g.get a = some (.map es c own) → ∀ e ∈ es, ∀ b, e.2.1.obj = some b → b < g.next
theorem LV.ok_obj {n : Nat} {v : LV} (h : v.ok ρ n) {b : Nat} (hb : v.obj = some b) : b < n := by
  cases v <;> simp only [LV.obj, Option.some.injEq, reduceCtorEq] at hb <;> subst hb <;> first | exact h | exact h.1
theorem LV.ok_objs {n : Nat} {v : LV} (h : v.ok ρ n) {b : Nat} (hb : b ∈ v.objs) : b < n := by
  cases v with
  | agg cs =>
    obtain ⟨c, hc, e⟩ := List.mem_filterMap.1 hb
    exact LV.ok_obj ((oks_iff _ _ _).1 h c hc) e
  | tuple cs =>
    obtain ⟨c, hc, e⟩ := List.mem_filterMap.1 hb
    exact LV.ok_obj ((oks_iff _ _ _).1 h c hc) e
  | _ => exact LV.ok_obj h (by simpa [LV.objs] using hb)
theorem Rel.wf (h : Rel W keep ρ g w) : g.Wf := ⟨fun a o h' => (h.obj a o h').1, fun a _ _ hg v hv _ hb => LV.ok_obj ((oks_iff _ _ _).1 (h.obj a _ hg).2.1 v hv) hb, fun a _ _ _ hg e he _ hb => LV.ok_obj ((h.obj a _ hg).2.1 e he).2 hb⟩
theorem Ok.wfs {f : FuncId} {args : List LV} {K : LV → LHeap → Prop} (h : Ok P f args g K) : Ok P f args g fun v g' => K v g' ∧ g.next ≤ g'.next ∧ g'.Wf ∧ ∀ b ∈ v.objs, b < g'.next :=
  ⟨h.1, fun W keep ρ w hr ha => (h.2 W keep ρ w hr ha).mono fun _ _ ⟨v, g', ρ', h1, h2, h3⟩ => ⟨v, g', ρ', h1, h2, h3, h2.le, h2.rel.wf, fun _ hb => LV.ok_objs h2.ok hb⟩⟩
/-- A call: by its contract; what it gives back is well formed. -/
theorem call_w {f : FuncId} {args : List LV} {S K : LV → LHeap → Prop} (h : Ok P f args g S) (k : ∀ v g', S v g' → g.next ≤ g'.next → g'.Wf → (∀ b ∈ v.objs, b < g'.next) → K v g') : Ok P f args g K :=
  h.wfs.mono fun v g' ⟨h1, h2, h3, h4⟩ => k v g' h1 h2 h3 h4
theorem ok_fw {f : FuncId} {fn : Func} {c : Code} {args : List LV} {K : LV → LHeap → Prop} (hm : P.follows .mixedOrders = true) (hf : P.funcs[f]? = some fn) (hfine : fineF P f = true) (hlen : args.length.ble fn.ntmps = true) (hc : c = bodyC P f)
    (hK : g.Wf → (∀ v ∈ args, ∀ b ∈ v.objs, b < g.next) → codeL P (Ok P) c ⟨startL args, g⟩ (endL P fn K)) : Ok P f args g K := by
  have hfine' := hfine
  unfold fineF at hfine'
  simp only [hf] at hfine'
  refine ⟨?_, fun W keep ρ w hr ha => (ok_f hm hf hfine hlen hc (hK hr.wf fun v hv b hb => LV.ok_objs ((oks_iff _ _ _).1 ha v hv) hb)).2 W keep ρ w hr ha⟩
  cases h : fn.body with
  | none => rw [h] at hfine'; cases hfine'
  | some c' =>
    rw [h] at hfine'
    simp only [Bool.and_eq_true, Bool.not_eq_true'] at hfine'
    exact ⟨fn, c', hf, h, hfine'.2⟩
/-- What was there and is not in F is as it was. -/
structure Fr (F : Nat → Prop) (g g' : LHeap) : Prop where
  le : g.next ≤ g'.next
  eq : ∀ a, a < g.next → ¬ F a → g'.get a = g.get a
theorem Fr.refl (F : Nat → Prop) (g : LHeap) : Fr F g g := ⟨Nat.le_refl _, fun _ _ _ => rfl⟩
theorem Fr.trans {F : Nat → Prop} {a b c : LHeap} (h : Fr F a b) (k : Fr F b c) : Fr F a c := ⟨Nat.le_trans h.le k.le, fun i hi hF => (k.eq i (Nat.lt_of_lt_of_le hi h.le) hF).trans (h.eq i hi hF)⟩
theorem Fr.mono {F G : Nat → Prop} {a b : LHeap} (h : Fr F a b) (hm : ∀ i, i < a.next → F i → G i) : Fr G a b := ⟨h.le, fun i hi hG => h.eq i hi fun hF => hG (hm i hi hF)⟩
/-- Behind it F' is what F was, and what is new. -/
theorem Fr.trans' {F F' : Nat → Prop} {a b c : LHeap} (h : Fr F a b) (k : Fr F' b c) (hm : ∀ i, i < a.next → F' i → F i) : Fr F a c := ⟨Nat.le_trans h.le k.le, fun i hi hF => (k.eq i (Nat.lt_of_lt_of_le hi h.le) fun hF' => hF (hm i hi hF')).trans (h.eq i hi hF)⟩
def noF : Nat → Prop := fun _ => False
theorem Fr.alloc (g : LHeap) (o : LObj) : Fr noF g (g.alloc o) := ⟨Nat.le_succ _, fun a ha _ => get_alloc_ne g o (Nat.ne_of_lt ha)⟩
theorem Fr.set {F : Nat → Prop} {g : LHeap} {a : Nat} (o : LObj) (h : F a) : Fr F g (g.set a o) := ⟨Nat.le_refl _, fun _ _ hF => get_set_ne g o fun e => hF (e ▸ h)⟩

/-! ### Rows -/
structure Enc (X : Type) where
  f : X → List LV
  e : Nat
  len : ∀ x, (f x).length = e
  cell : ∀ x, ∀ v ∈ f x, v.cell = true
  pos : 0 < e
def intE : Enc Int := ⟨fun n => [.int .i64 n], 1, fun _ => rfl, fun _ v h => by simp at h; subst h; rfl, Nat.one_pos⟩
def byteE : Enc Int := ⟨fun n => [.int .u8 n], 1, fun _ => rfl, fun _ v h => by simp at h; subst h; rfl, Nat.one_pos⟩
def boolE : Enc Bool := ⟨fun n => [.bool n], 1, fun _ => rfl, fun _ v h => by simp at h; subst h; rfl, Nat.one_pos⟩
def LV.at (V : LV) (e i : Nat) : LV :=
  match V with
  | .slice a off _ _ => .ptr a (off + i * e)
  | _ => undefL
variable {X : Type} {E : Enc X} {V U : LV} {l m : List X}
theorem flat_len (E : Enc X) : ∀ (l : List X), (l.flatMap E.f).length = l.length * E.e
  | [] => by simp
  | x :: l => by simp only [List.flatMap_cons, List.length_append, E.len, flat_len E l, List.length_cons, Nat.succ_mul]; omega
theorem flat_cell (E : Enc X) (l : List X) : ∀ v ∈ l.flatMap E.f, v.cell = true := fun v hv => by
  obtain ⟨x, _, h⟩ := List.mem_flatMap.1 hv
  exact E.cell x v h
theorem flat_at (E : Enc X) : ∀ {l : List X} {i : Nat} {x : X}, l[i]? = some x → ((l.flatMap E.f).drop (i * E.e)).take E.e = E.f x
  | [], _, _, h => by simp at h
  | y :: l, 0, x, h => by
    simp only [List.getElem?_cons_zero, Option.some.injEq] at h
    subst h
    simp only [List.flatMap_cons, Nat.zero_mul, List.drop_zero]
    rw [List.take_append_of_le_length (by rw [E.len]; exact Nat.le_refl _), List.take_of_length_le (by rw [E.len]; exact Nat.le_refl _)]
  | y :: l, i + 1, x, h => by
    have := flat_at E (l := l) (i := i) (x := x) (by simpa using h)
    rw [← this]
    simp only [List.flatMap_cons]
    rw [show (i + 1) * E.e = (E.f y).length + i * E.e by rw [E.len, Nat.succ_mul]; omega, ← List.drop_drop, List.drop_left]
/-- A slice that has these elements. -/
def Row (g : LHeap) (V : LV) (E : Enc X) (l : List X) : Prop :=
  (l = [] ∧ (V = .nils ∨ ∃ a off alt z b, V = .tail a off alt z b)) ∨
  ∃ a off cap vs own, V = .slice a off l.length cap ∧ g.get a = some (.cells vs own) ∧ (vs.drop off).take (l.length * E.e) = l.flatMap E.f ∧ off + l.length * E.e ≤ vs.length
theorem Row.nils (g : LHeap) (E : Enc X) : Row g .nils E [] := .inl ⟨rfl, .inl rfl⟩
theorem Row.of {a off : Nat} {cap : Cap} {vs : List LV} {own : Own} {n : Nat} (hg : g.get a = some (.cells vs own)) (hn : n = l.length) (hv : (vs.drop off).take (l.length * E.e) = l.flatMap E.f) (hl : off + l.length * E.e ≤ vs.length) : Row g (.slice a off n cap) E l := by
  subst hn
  exact .inr ⟨a, off, cap, vs, own, rfl, hg, hv, hl⟩
theorem Row.cell (h : Row g V E l) : V.cell = true := by
  rcases h with ⟨_, rfl | ⟨_, _, _, _, _, rfl⟩⟩ | ⟨_, _, _, _, _, rfl, _⟩ <;> rfl
theorem Row.len {t e : TypeId} (h : Row g V E l) (hu : P.underlying t = some (.slice e)) (g' : LHeap) : lenL P t V g' = some (.int .i64 l.length) := by
  rcases h with ⟨rfl, rfl | ⟨_, _, _, _, _, rfl⟩⟩ | ⟨_, _, _, _, _, rfl, _⟩ <;> simp [lenL, hu]
theorem Row.ix (h : Row g V E l) {i : Nat} {k : IntKind} (hi : i < l.length) : ixAddrL none E.e V (.int k (i : Int)) = some (V.at E.e i) := by
  rcases h with ⟨rfl, _⟩ | ⟨_, _, _, _, _, rfl, _⟩
  · simp at hi
  · exact ix_nat E.e i hi
theorem Row.ld (h : Row g V E l) {i : Nat} {x : X} (hx : l[i]? = some x) : loadV (some E.e) (V.at E.e i) g = some (.agg (E.f x)) := by
  have hi := (List.getElem?_eq_some_iff.1 hx).1
  rcases h with ⟨rfl, _⟩ | ⟨a, off, cap, vs, own, rfl, hg, hv, hl⟩
  · simp at hi
  · have h2 : (i + 1) * E.e ≤ l.length * E.e := Nat.mul_le_mul_right _ hi
    have h3 : (i + 1) * E.e = i * E.e + E.e := Nat.succ_mul _ _
    simp only [LV.at, load_o, hg]
    rw [cells_o _ _ _ _ (by omega), ← flat_at E hx, ← hv, List.drop_take, List.take_take, List.drop_drop]
    congr 3
    omega
theorem Row.ld1 (h : Row g V E l) {i : Nat} {x : X} {v : LV} (hx : l[i]? = some x) (he : E.e = 1) (hf : E.f x = [v]) : loadV none (V.at 1 i) g = some v := by
  have h1 := h.ld hx
  rw [he, hf] at h1
  rcases h with ⟨rfl, _⟩ | ⟨a, off, cap, vs, own, rfl, hg, hv, hl⟩
  · simp at hx
  · simp only [LV.at, load_o, hg] at h1 ⊢
    simp only [cellO] at h1 ⊢
    split at h1
    · simp only [Option.some.injEq, LV.agg.injEq] at h1
      have := congrArg (fun l => l[0]?) h1
      simpa using this
    · cases h1
theorem Row.fr (h : Row g V E l) {g' : LHeap} (hf : ∀ a, V.obj = some a → g'.get a = g.get a) : Row g' V E l := by
  rcases h with h | ⟨a, off, cap, vs, own, rfl, hg, hv, hl⟩
  · exact .inl h
  · exact .inr ⟨a, off, cap, vs, own, rfl, (hf a rfl).trans hg, hv, hl⟩
theorem Row.src (h : Row g V E l) : srcCells E.e V g = some (l.length, l.flatMap E.f) := by
  rcases h with ⟨rfl, rfl | ⟨_, _, _, _, _, rfl⟩⟩ | ⟨a, off, cap, vs, own, rfl, hg, hv, hl⟩
  · rfl
  · rfl
  · simp only [srcCells, hg, if_pos hl, hv]
theorem Row.not_str (h : Row g V E l) : V.isStr = false := by
  rcases h with ⟨_, rfl | ⟨_, _, _, _, _, rfl⟩⟩ | ⟨_, _, _, _, _, rfl, _⟩ <;> rfl
/-- May be appended to. -/
def Grow (g : LHeap) (V : LV) (e : Nat) : Prop :=
  match V with
  | .nils => True
  | .tail _ _ _ _ z => z = true
  | .slice a off n (.ex c) => n ≤ c ∧ (n < c → ∃ vs own, g.get a = some (.cells vs own) ∧ own ≠ .ro ∧ off + c * e ≤ vs.length)
  | .slice a _ _ (.op e') => e' = e ∧ ∃ vs, g.get a = some (.cells vs .op)
  | _ => False
theorem Grow.fr {e : Nat} (h : Grow g V e) {g' : LHeap} (hf : ∀ a, V.obj = some a → g'.get a = g.get a) : Grow g' V e := by
  cases V with
  | slice a off n c =>
    cases c with
    | ex c => exact ⟨h.1, fun hn => by obtain ⟨vs, own, h1, h2⟩ := h.2 hn; exact ⟨vs, own, (hf a rfl).trans h1, h2⟩⟩
    | op e' => obtain ⟨h0, vs, h1⟩ := h; exact ⟨h0, vs, (hf a rfl).trans h1⟩
  | _ => exact h
/-- Its elements may be stored to. -/
def Mine (g : LHeap) (V : LV) : Prop :=
  match V with
  | .slice a _ _ _ => ∃ vs own, g.get a = some (.cells vs own) ∧ own ≠ .ro
  | _ => True
theorem Mine.fr (h : Mine g V) {g' : LHeap} (hf : ∀ a, V.obj = some a → g'.get a = g.get a) : Mine g' V := by
  cases V with
  | slice a off n c => obtain ⟨vs, own, h1, h2⟩ := h; exact ⟨vs, own, (hf a rfl).trans h1, h2⟩
  | _ => exact h
theorem splice_len {vs new : List LV} {off : Nat} (h : off + new.length ≤ vs.length) : (splice vs off new).length = vs.length := by
  unfold splice; simp only [List.length_append, List.length_take, List.length_drop]; omega
theorem splice_take {vs new : List LV} {off o n : Nat} (h : off + new.length ≤ vs.length) (ho : o + n = off) : ((splice vs off new).drop o).take (n + new.length) = (vs.drop o).take n ++ new := by
  subst ho
  unfold splice
  rw [List.append_assoc, List.drop_append_of_le_length (by simp only [List.length_take]; omega), List.drop_take, Nat.add_sub_cancel_left, ← List.append_assoc,
    List.take_append_of_le_length (by simp only [List.length_append, List.length_take, List.length_drop]; omega), List.take_of_length_le (by simp only [List.length_append, List.length_take, List.length_drop]; omega)]
theorem append_row {bytes : Nat} (hV : Row g V E l) (hG : Grow g V E.e) (hU : Row g U E m) (hb : (l.length + m.length) * bytes * 2 ≤ 2 ^ 48 ∨ ((l.length + m.length) * 5 + 2048) * bytes ≤ 2 ^ 50) :
    ∃ V' g', appendL E.e bytes V U g = some (V', g') ∧ Row g' V' E (l ++ m) ∧ Grow g' V' E.e ∧ ((m = [] ∧ V' = V ∧ g' = g) ∨ (m ≠ [] ∧ Mine g' V' ∧ (∀ b, V.obj ≠ some b → b ≠ g.next → g'.get b = g.get b) ∧
      (V'.obj = some g.next ∧ g'.next = g.next + 1 ∨ V'.obj = V.obj ∧ Mine g V ∧ g'.next = g.next))) := by
  by_cases hm : m = []
  · subst hm
    refine ⟨V, g, ?_, by simpa using hV, hG, .inl ⟨rfl, rfl, rfl⟩⟩
    simp only [appendL, hU.src, hV.src, hV.not_str]
    rfl
  have hm0 : m.length ≠ 0 := fun h => hm (List.length_eq_zero_iff.1 h)
  have hfl : (l ++ m).flatMap E.f = l.flatMap E.f ++ m.flatMap E.f := by simp
  have new_row : ∀ (h : LHeap) (vs : List LV), vs = (l ++ m).flatMap E.f → Row (h.alloc (.cells vs .op)) (.slice h.next 0 (l.length + m.length) (.op E.e)) E (l ++ m) := fun h vs e => by
    refine .inr ⟨h.next, 0, .op E.e, vs, .op, by simp, by simp, ?_, ?_⟩
    · rw [e, List.drop_zero, List.take_of_length_le (by rw [flat_len]; exact Nat.le_refl _)]
    · rw [e, flat_len]; omega
  have new_row0 : l = [] → ∀ (h : LHeap) (vs : List LV), vs = m.flatMap E.f → Row (h.alloc (.cells vs .op)) (.slice h.next 0 m.length (.op E.e)) E (l ++ m) := fun hl h vs e => by
    subst hl
    have := new_row h vs (by simpa using e)
    simpa using this
  have start : ∀ r, (match V with
      | .slice a off len cap =>
        match g.get a with
        | some (.cells vs own) =>
          match cap with
          | .ex c =>
            if len + m.length ≤ c then
              match storeCellsL a (off + len * E.e) (m.flatMap E.f) g with
              | some g' => some (.slice a off (len + m.length) (.ex c), g')
              | none => none
            else some (.slice g.next 0 (len + m.length) (.op E.e), g.alloc (.cells (l.flatMap E.f ++ m.flatMap E.f) .op))
          | .op e' =>
            if e' ≠ E.e ∨ own ≠ .op then none else
            if off + (len + m.length) * E.e ≤ vs.length then
              match storeCellsL a (off + len * E.e) (m.flatMap E.f) g with
              | some g' => some (.slice a off (len + m.length) (.op E.e), g')
              | none => none
            else some (.slice g.next 0 (len + m.length) (.op E.e), (g.erase a).alloc (.cells (l.flatMap E.f ++ m.flatMap E.f) .op))
        | _ => none
      | .tail a _ _ e' z =>
        if z then some (.slice g.next 0 m.length (.op E.e), g.alloc (.cells (m.flatMap E.f) .op)) else
        match g.get a with
        | some (.cells _ own) =>
          if e' ≠ E.e ∨ own ≠ .op then none else some (.slice g.next 0 m.length (.op E.e), (g.erase a).alloc (.cells (m.flatMap E.f) .op))
        | _ => none
      | .nils => some (.slice g.next 0 m.length (.op E.e), g.alloc (.cells (m.flatMap E.f) .op))
      | _ => none) = some r → appendL E.e bytes V U g = some r := fun r hr => by
    simp only [appendL, hU.src, hV.src, hV.not_str, Bool.false_eq_true, if_false, if_neg hm0]
    rw [if_neg (fun h => h hb)]
    exact hr
  rcases hV with ⟨rfl, rfl | ⟨a, off, alt, z, b, rfl⟩⟩ | ⟨a, off, cap, vs, own, rfl, hg, hv, hl⟩
  · refine ⟨_, _, start _ rfl, new_row0 rfl _ _ rfl, ⟨rfl, _, get_alloc_eq _ _⟩, .inr ⟨hm, ⟨_, .op, get_alloc_eq _ _, by decide⟩, fun b _ hb => get_alloc_ne g _ hb, .inl ⟨rfl, rfl⟩⟩⟩
  · have hz : b = true := hG
    subst hz
    refine ⟨_, _, start _ rfl, new_row0 rfl _ _ rfl, ⟨rfl, _, get_alloc_eq _ _⟩, .inr ⟨hm, ⟨_, .op, get_alloc_eq _ _, by decide⟩, fun b _ hb => get_alloc_ne g _ hb, .inl ⟨rfl, rfl⟩⟩⟩
  · have hml : (m.flatMap E.f).length = m.length * E.e := flat_len E m
    have hlm : (l.length + m.length) * E.e = l.length * E.e + m.length * E.e := Nat.add_mul _ _ _
    have place : ∀ (c' : Cap), own ≠ .ro → off + (l.length + m.length) * E.e ≤ vs.length →
        ∃ g', storeCellsL a (off + l.length * E.e) (m.flatMap E.f) g = some g' ∧ Row g' (.slice a off (l.length + m.length) c') E (l ++ m) ∧ (∃ ws, g'.get a = some (.cells ws own) ∧ ws.length = vs.length) ∧ (∀ b, b ≠ a → g'.get b = g.get b) ∧ g'.next = g.next := by
      intro c' ho hr
      have hfit : off + l.length * E.e + (m.flatMap E.f).length ≤ vs.length := by rw [hml]; omega
      refine ⟨g.set a (.cells (splice vs (off + l.length * E.e) (m.flatMap E.f)) own), ?_, ?_, ⟨_, get_set_eq _ _ _, splice_len hfit⟩, fun b hb => get_set_ne g _ hb, rfl⟩
      · simp only [storeCellsL, hg]
        rw [if_pos ⟨ho, hfit, List.all_eq_true.2 (flat_cell E m)⟩]
      · refine Row.of (get_set_eq _ _ _) (by simp) ?_ (by rw [splice_len hfit, List.length_append]; exact hr)
        rw [hfl, ← hv, List.length_append, hlm, ← hml, splice_take hfit rfl]
    cases cap with
    | ex c =>
      by_cases hc : l.length + m.length ≤ c
      · obtain ⟨hlc, hroom⟩ := hG
        obtain ⟨vs', own', hg', ho, hr⟩ := hroom (by omega)
        rw [hg] at hg'
        cases hg'
        have hle : (l.length + m.length) * E.e ≤ c * E.e := Nat.mul_le_mul_right _ hc
        obtain ⟨g', e1, e2, ⟨ws, e3, e4⟩, e5, e6⟩ := place (.ex c) ho (by omega)
        refine ⟨_, _, start _ (by simp only [hg, if_pos hc, e1]), e2, ⟨hc, fun _ => ⟨ws, own, e3, ho, by omega⟩⟩, .inr ⟨hm, ⟨ws, own, e3, ho⟩, fun b hb _ => e5 b fun e => hb (e ▸ rfl), .inr ⟨rfl, ⟨vs, own, hg, ho⟩, e6⟩⟩⟩
      · refine ⟨_, _, start _ (by simp only [hg, if_neg hc]), new_row _ _ hfl.symm, ⟨rfl, _, get_alloc_eq _ _⟩, .inr ⟨hm, ⟨_, .op, get_alloc_eq _ _, by decide⟩, fun b _ hb => get_alloc_ne g _ hb, .inl ⟨rfl, rfl⟩⟩⟩
    | op e' =>
      obtain ⟨rfl, vs', hg'⟩ := hG
      rw [hg] at hg'
      cases hg'
      have hno : ¬ (E.e ≠ E.e ∨ Own.op ≠ Own.op) := by simp
      by_cases hr : off + (l.length + m.length) * E.e ≤ vs.length
      · obtain ⟨g', e1, e2, ⟨ws, e3, e4⟩, e5, e6⟩ := place (.op E.e) (by decide) hr
        refine ⟨_, _, start _ (by simp only [hg, if_neg hno, if_pos hr, e1]), e2, ⟨rfl, ws, e3⟩, .inr ⟨hm, ⟨ws, .op, e3, by decide⟩, fun b hb _ => e5 b fun e => hb (e ▸ rfl), .inr ⟨rfl, ⟨vs, .op, hg, by decide⟩, e6⟩⟩⟩
      · refine ⟨_, _, start _ (by simp only [hg, if_neg hno, if_neg hr]; rfl), new_row (g.erase a) _ hfl.symm, ⟨rfl, _, get_alloc_eq (g.erase a) _⟩, .inr ⟨hm, ⟨_, .op, get_alloc_eq (g.erase a) _, by decide⟩, fun b hb hn => ?_, .inl ⟨rfl, rfl⟩⟩⟩
        rw [get_alloc_ne (g.erase a) _ hn, get_erase_ne g fun e => hb (by rw [e]; rfl)]

end Go.Lm

/-
  The logical machine, part 3: a region's order, reckoned beforehand (closed), so that its meaning is read off without it.
-/
namespace Go.Lm

variable {P : Program} {C : CallSem} {g : LHeap}

/-- lt: a light operation, held or not; hv: one that may come now, what follows it, and the others; nil: none is left. -/
inductive Plan where
  | nil
  | bad
  | lt (i : Nat) (hold : Bool) (p : Plan)
  | hv (i : Nat) (p rest : Plan)
def Plan.beq : Plan → Plan → Bool
  | .nil, .nil => true
  | .bad, .bad => true
  | .lt i h p, .lt j k q => Nat.beq i j && (h == k && p.beq q)
  | .hv i p r, .hv j q s => Nat.beq i j && (p.beq q && r.beq s)
  | _, _ => false
theorem Plan.eq_of_beq : ∀ {p q : Plan}, p.beq q = true → p = q
  | .nil, .nil, _ => rfl
  | .bad, .bad, _ => rfl
  | .lt i h p, .lt j k q, e => by
    simp only [Plan.beq, Bool.and_eq_true, beq_iff_eq] at e
    rw [Nat.eq_of_beq_eq_true e.1, e.2.1, Plan.eq_of_beq e.2.2]
  | .hv i p r, .hv j q s, e => by
    simp only [Plan.beq, Bool.and_eq_true] at e
    rw [Nat.eq_of_beq_eq_true e.1, Plan.eq_of_beq e.2.1, Plan.eq_of_beq e.2.2]
  | .nil, .bad, e | .nil, .lt _ _ _, e | .nil, .hv _ _ _, e | .bad, .nil, e | .bad, .lt _ _ _, e | .bad, .hv _ _ _, e | .lt _ _ _, .nil, e | .lt _ _ _, .bad, e | .lt _ _ _, .hv _ _ _, e | .hv _ _ _, .nil, e | .hv _ _ _, .bad, e | .hv _ _ _, .lt _ _ _, e => by simp [Plan.beq] at e
def altsOf (P : Program) (ops : Array Oper) (f : Nat → Plan) : List Nat → Plan
  | [] => .nil
  | i :: is =>
    match ops[i]? with
    | some o => match kindO P o.op with
      | some _ => .bad
      | none => .hv i (f i) (altsOf P ops f is)
    | none => .bad
def planOf (P : Program) (ops : Array Oper) (ms : List Nat) : Nat → Array Bool → Plan
  | 0, listed => match Region.ready .any ops listed with
    | [] => .nil
    | _ => .bad
  | n + 1, listed =>
    match Region.ready .any ops listed with
    | [] => .nil
    | r :: rs =>
      match pickL1 P ops ms listed (r :: rs) with
      | some (i, _, reads) => .lt i (reads && needsH P ops ms i) (planOf P ops ms n (listed.setIfInBounds i true))
      | none => altsOf P ops (fun i => planOf P ops ms n (listed.setIfInBounds i true)) (r :: rs)
def moveOf : Op → Option Operand
  | .move x | .assign x => some x
  | _ => none
theorem move_light {tm : Nat → LV} {op : Op} {x : Operand} (h : moveOf op = some x) (g : LHeap) : lightV P tm op g = some (evL tm x) := by
  cases op <;> simp only [moveOf, reduceCtorEq, Option.some.injEq] at h <;> subst h <;> rfl
def lightH (P : Program) (ops : Array Oper) (i : Nat) (o : Oper) (hold : Bool) (D : List Held) (st : LSt) (K : List Held → LSt → Prop) : Prop :=
  match o.guard with
  | none => match moveOf o.op with
    | some x => K (match hold with | true => ⟨i, o, st.tm, evL st.tm x⟩ :: D | false => D) ⟨putL st.tm o.dst (evL st.tm x), st.g⟩
    | none => vK (lightV P st.tm o.op st.g) fun v => K (match hold with | true => ⟨i, o, st.tm, v⟩ :: D | false => D) ⟨putL st.tm o.dst v, st.g⟩
  | some (j, want) =>
    match hold, (ops[j]?).bind (·.dst) with
    | false, some d => gdV (st.tm d) want (lightV P st.tm o.op st.g) fun v => K D ⟨putL st.tm o.dst v, st.g⟩
    | true, some d => gdD (st.tm d) want (lightV P st.tm o.op st.g) (fun v => K (⟨i, o, st.tm, v⟩ :: D) ⟨putL st.tm o.dst v, st.g⟩) (K D ⟨putL st.tm o.dst undefL, st.g⟩)
    | _, none => False
def runPlan (P : Program) (C : CallSem) (ops : Array Oper) (ms : List Nat) : Plan → Bool → List Held → LSt → (LSt → Prop) → Prop
  | .nil, false, _, st, K => K st
  | .nil, true, _, _, _ => True
  | .bad, _, _, _, _ => False
  | .lt i hold p, false, D, st, K => match ops[i]? with
    | some o => lightH P ops i o hold D st fun D' st' => runPlan P C ops ms p false D' st' K
    | none => False
  | .lt _ _ _, true, _, _, _ => False
  | .hv i p rest, _, D, st, K => (match ops[i]? with
    | some o => step2 P C ops o st fun st' => held2 P ms i st'.g D (runPlan P C ops ms p false D st' K)
    | none => False) ∧ runPlan P C ops ms rest true D st K
theorem alts_run {ops : Array Oper} {ms : List Nat} {f : Nat → Plan} {D : List Held} {st : LSt} {K : LSt → Prop} {R : Nat → LSt → Prop} (hC : Mono C) (hf : ∀ i st', runPlan P C ops ms (f i) false D st' K → R i st') : ∀ (l : List Nat), runPlan P C ops ms (altsOf P ops f l) true D st K → allL l fun i =>
        match ops[i]? with
        | some o => match kindO P o.op with
          | some _ => False
          | none => step2 P C ops o st fun st' => held2 P ms i st'.g D (R i st')
        | none => False
  | [], _ => trivial
  | i :: is, h => by
    unfold altsOf at h
    split at h
    · rename_i o ho
      split at h
      · exact h.elim
      · rename_i hk
        simp only [runPlan, ho] at h
        refine ⟨?_, alts_run hC hf is h.2⟩
        simp only [ho, hk]
        exact step2_mono hC (fun st' h' => held2_mono (hf i st') h') h.1
    · exact h.elim
where
  held2_mono {ms : List Nat} {j : Nat} {g : LHeap} {K K' : Prop} (hk : K → K') : ∀ {D : List Held}, held2 P ms j g D K → held2 P ms j g D K'
    | [], h => hk h
    | d :: D, h => by
      unfold held2 at h ⊢
      split at h
      · exact ⟨h.1, held2_mono hk h.2⟩
      · exact held2_mono hk h
  step2_mono {ops : Array Oper} {o : Oper} {st : LSt} {K K' : LSt → Prop} (hC : Mono C) (hk : ∀ st, K st → K' st) (h : step2 P C ops o st K) : step2 P C ops o st K' := by
    unfold step2 at h ⊢
    split at h
    · exact opL_mono hC (fun v g hv => hk _ hv) h
    · split at h
      · exact h.elim
      · unfold gd at h ⊢
        split at h
        · split at h
          · rename_i hw; rw [if_pos hw]; exact opL_mono hC (fun v g hv => hk _ hv) h
          · rename_i hw; rw [if_neg hw]; exact hk _ h
        · exact hk _ h
        · exact h.elim
theorem light_h {ops : Array Oper} {ms : List Nat} {i : Nat} {o : Oper} {reads : Bool} {D : List Held} {st : LSt} {K K' : List Held → LSt → Prop} (hk : ∀ D st, K D st → K' D st) (h : lightH P ops i o (reads && needsH P ops ms i) D st K) : light2 P ops ms i o reads D st K' := by
  unfold lightH at h
  unfold light2
  cases hg : o.guard with
  | none =>
    simp only [hg] at h ⊢
    split at h
    · rename_i x hx
      rw [move_light hx]
      exact hk _ _ h
    · exact vK_mono (fun v hv => hk _ _ hv) h
  | some jw =>
    obtain ⟨j, want⟩ := jw
    simp only [hg] at h ⊢
    split at h
    · rename_i h1 h2
      simp only [h1, h2]
      unfold gdV at h ⊢
      split at h
      · split at h
        · rename_i hw; rw [if_pos hw]; exact vK_mono (fun v hv => hk _ _ hv) h
        · rename_i hw; rw [if_neg hw]; exact hk _ _ h
      · exact hk _ _ h
      · exact h.elim
    · rename_i h1 h2
      simp only [h1, h2]
      unfold gdD at h ⊢
      split at h
      · split at h
        · rename_i hw; rw [if_pos hw]; exact vK_mono (fun v hv => hk _ _ hv) h
        · rename_i hw; rw [if_neg hw]; exact hk _ _ h
      · exact hk _ _ h
      · exact h.elim
    · exact h.elim
theorem run_plan (hC : Mono C) {ops : Array Oper} {ms : List Nat} {K : LSt → Prop} : ∀ (n : Nat) (listed : Array Bool) (D : List Held) (st : LSt), runPlan P C ops ms (planOf P ops ms n listed) false D st K → draw2 P C ops ms n listed D st K := by
  intro n
  induction n with
  | zero =>
    intro listed D st h
    unfold planOf at h
    unfold draw2
    split at h
    · rename_i hr; rw [hr]; exact h
    · exact h.elim
  | succ n ih =>
    intro listed D st h
    unfold planOf at h
    unfold draw2
    split at h
    · rename_i hr; rw [hr]; exact h
    · rename_i r rs hr
      rw [hr]
      simp only []
      split at h
      · rename_i i o reads hp
        rw [hp]
        obtain ⟨_, ho, _, _⟩ := pickL1_spec hp
        simp only [runPlan, ho] at h
        exact light_h (fun D' st' h' => ih _ _ _ h') h
      · rename_i hp
        rw [hp]
        have h' : runPlan P C ops ms (altsOf P ops (fun i => planOf P ops ms n (listed.setIfInBounds i true)) (r :: rs)) true D st K := by
          unfold altsOf at h ⊢
          split at h
          · split at h
            · exact h.elim
            · exact h
          · exact h.elim
        exact alts_run hC (R := fun i st' => draw2 P C ops ms n (listed.setIfInBounds i true) D st' K) (fun i st' h2 => ih _ _ _ h2) _ h'

def planAt (pl : List (Nat × Plan)) (id : Nat) : Option Plan :=
  match pl with
  | [] => none
  | (k, p) :: r => match Nat.beq k id with
    | true => some p
    | false => planAt r id
def code3 (P : Program) (C : CallSem) (pl : List (Nat × Plan)) : Code → LSt → (LEx → LSt → Prop) → Prop
  | .skip, st, K => K .normal st
  | .region id ops true, st, K => match planAt pl id with
    | some p => runPlan P C ops (masks ops.toList []) p false [] st (K .normal)
    | none => draw2 P C ops (masks ops.toList []) ops.size (Array.replicate ops.size false) [] st (K .normal)
  | .region _ ops false, st, K => run2 P C ops ops.toList st (K .normal)
  | .seq a b, st, K => code3 P C pl a st (thenL (fun st' => code3 P C pl b st' K) K)
  | .cond c a b, st, K => ifB (evL st.tm c) (code3 P C pl a st K) (code3 P C pl b st K)
  | .block id b, st, K => code3 P C pl b st (exitL id K)
  | .exit id, st, K => K (.exit id) st
  | .ret, st, K => K .ret st
  | .scope b, st, K => code3 P C pl b st K
  | .label _, st, K => K .normal st
  | _, _, _ => False
def plansOK (P : Program) (pl : List (Nat × Plan)) : Code → Bool
  | .region id ops true => match planAt pl id with
    | some p => (planOf P ops (masks ops.toList []) ops.size (Array.replicate ops.size false)).beq p
    | none => true
  | .seq a b => plansOK P pl a && plansOK P pl b
  | .cond _ a b => plansOK P pl a && plansOK P pl b
  | .block _ b => plansOK P pl b
  | .loop b => plansOK P pl b
  | .scope b => plansOK P pl b
  | _ => true
theorem code3_sound (hC : Mono C) {pl : List (Nat × Plan)} : ∀ (c : Code) (st : LSt) (K : LEx → LSt → Prop), plansOK P pl c = true → code3 P C pl c st K → codeL P C c st K := by
  intro c
  induction c with
  | region id ops d =>
    intro st K hp h
    cases d with
    | true =>
      simp only [code3] at h
      simp only [plansOK] at hp
      refine draw2_sound hC _ _ [] [] _ (fun _ _ _ _ h => h) ?_
      split at h
      · rename_i p e
        rw [e] at hp
        rw [← Plan.eq_of_beq hp] at h
        exact run_plan hC _ _ _ _ h
      · exact h
    | false => exact run2_sound hC _ _ h
  | seq a b iha ihb =>
    intro st K hp h
    simp only [plansOK, Bool.and_eq_true] at hp
    refine codeL_mono hC a st _ _ (fun e st' h' => ?_) (iha st _ hp.1 h)
    cases e with
    | normal => exact ihb st' K hp.2 h'
    | _ => exact h'
  | cond c a b iha ihb =>
    intro st K hp h
    simp only [plansOK, Bool.and_eq_true] at hp
    simp only [code3] at h
    simp only [codeL]
    unfold ifB at h
    split at h
    · rename_i hc; simp only [hc]; exact iha st K hp.1 h
    · rename_i hc; simp only [hc]; exact ihb st K hp.2 h
    · exact h.elim
  | block id b ih => intro st K hp h; exact ih st _ hp h
  | skip => intro st K _ h; exact h
  | exit id => intro st K _ h; exact h
  | ret => intro st K _ h; exact h
  | scope b ih => intro st K hp h; exact ih st _ hp h
  | label l => intro st K _ h; exact h
  | _ => intro st K _ h; exact h.elim

end Go.Lm

/-
  The logical machine, part 4: loops by a number that is not told; what is decided on the way.
-/
namespace Go.Lm

set_option linter.unusedSimpArgs false
variable {P : Program} {g : LHeap}

theorem exists_min {p : Nat → Prop} (h : ∃ n, p n) : ∃ n, p n ∧ ∀ m, p m → n ≤ m := by
  obtain ⟨n, hn⟩ := h
  induction n using Nat.strongRecOn with
  | _ n ih =>
    by_cases h : ∃ m, m < n ∧ p m
    · obtain ⟨m, hm, hp⟩ := h
      exact ih m hm hp
    · exact ⟨n, hn, fun m hp => Nat.le_of_not_lt fun hl => h ⟨m, hl, hp⟩⟩
open Classical in
/-- A loop: what holds at each round's head, with a number that falls and that nobody has to reckon out of the state. -/
theorem loop_n {S : Type} {B : S → LHeap → (S → LHeap → Prop) → Prop} {s : S} {g : LHeap} (I : Nat → S → LHeap → Prop) {n : Nat} (h : I n s g) (hr : ∀ n s g, I n s g → B s g fun s' g' => ∃ m, m < n ∧ I m s' g') : loopP B s g := by
  let least : S → LHeap → Nat := fun s g => if h : ∃ n, I n s g then Classical.choose (exists_min h) else 0
  have lI : ∀ {s g}, (∃ n, I n s g) → I (least s g) s g := fun {s g} h => by
    simp only [least, dif_pos h]; exact (Classical.choose_spec (exists_min h)).1
  have lle : ∀ {s g n}, I n s g → least s g ≤ n := fun {s g n} h => by
    simp only [least, dif_pos (⟨n, h⟩ : ∃ n, I n s g)]; exact (Classical.choose_spec (exists_min (⟨n, h⟩ : ∃ n, I n s g))).2 _ h
  refine ⟨fun s g => ∃ n, I n s g, least, ⟨n, h⟩, fun s g hI => ?_⟩
  have h1 := hr _ s g (lI hI)
  have e : (fun s' g' => ∃ m, m < least s g ∧ I m s' g') = fun s' g' => (∃ n, I n s' g') ∧ least s' g' < least s g := by
    funext s' g'
    exact propext ⟨fun ⟨m, hm, hI'⟩ => ⟨⟨m, hI'⟩, Nat.lt_of_le_of_lt (lle hI') hm⟩, fun ⟨hI', hl⟩ => ⟨_, hl, lI hI'⟩⟩
  rw [e] at h1
  exact h1

theorem dec : (∀ a b : Int, a < b → decide (a < b) = true) ∧ (∀ a b : Int, b ≤ a → decide (a < b) = false) ∧ (∀ a b : Int, b < a → decide (a > b) = true) ∧ (∀ a b : Int, a ≤ b → decide (a > b) = false) ∧
    (∀ a b : Int, a ≤ b → decide (a ≤ b) = true) ∧ (∀ a b : Int, b < a → decide (a ≤ b) = false) ∧ (∀ a b : Int, b ≤ a → decide (a ≥ b) = true) ∧ (∀ a b : Int, a < b → decide (a ≥ b) = false) ∧
    (∀ a b : Int, a = b → (a == b) = true) ∧ (∀ a b : Int, a ≠ b → (a == b) = false) ∧ (∀ a : Int, -9223372036854775808 ≤ a → a < 9223372036854775808 → IntKind.i64.wrap a = a) :=
  ⟨fun _ _ => lt_t, fun _ _ => lt_f, fun _ _ => gt_t, fun _ _ => gt_f, fun _ _ => le_t, fun _ _ => le_f, fun _ _ => ge_t, fun _ _ => ge_f, fun _ _ => eq_t, fun _ _ => eq_f, fun _ => wrap_in⟩
theorem ix_arr' {a off len : Nat} {k : IntKind} (sz n : Nat) (h : n < len) : ixAddrL (some len) sz (.ptr a off) (.int k (n : Int)) = some (.ptr a (off + n * sz)) := if_pos ⟨by omega, by omega⟩
theorem binL_quo_int (t : TypeId) (lit : Bool) (k : IntKind) (a b : Int) (hb : b ≠ 0) : binL P .quo t lit (.int k a) (.int k b) = some (.int k (k.wrap (a.tdiv b))) := by
  have e : binL P .quo t lit (.int k a) (.int k b) = ofPure (Op.intDiv .quo k a b) := by cases k <;> rfl
  rw [e, Op.intDiv, if_neg hb]
  rfl
theorem binL_rem_int (t : TypeId) (lit : Bool) (k : IntKind) (a b : Int) (hb : b ≠ 0) : binL P .rem t lit (.int k a) (.int k b) = some (.int k (a.tmod b)) := by
  have e : binL P .rem t lit (.int k a) (.int k b) = ofPure (Op.intDiv .rem k a b) := by cases k <;> rfl
  rw [e, Op.intDiv, if_neg hb]
  rfl

/-! ### Rows, further -/
theorem Row.up {X : Type} {E : Enc X} {V : LV} {l : List X} (h : Row g V E l) {F : Nat → Prop} {g' : LHeap} (wf : g.Wf) (f : Fr F g g') (hF : ∀ a, V.obj = some a → ¬ F a) : Row g' V E l := by
  rcases h with h | ⟨a, off, cap, vs, own, rfl, hg, hv, hl⟩
  · exact .inl h
  · exact .inr ⟨a, off, cap, vs, own, rfl, (f.eq a (wf.lt a _ hg) (hF a rfl)).trans hg, hv, hl⟩
theorem Row.fl {X : Type} {E : Enc X} {V : LV} {l : List X} (h : Row g V E l) {i : Nat} {x : X} (hx : l[i]? = some x) : ∃ a off, V.at E.e i = .ptr a off ∧ ∀ (j : Nat) (v : LV), (E.f x)[j]? = some v → cellO none (off + j) (g.get a) = some v := by
  have hi := (List.getElem?_eq_some_iff.1 hx).1
  rcases h with ⟨rfl, _⟩ | ⟨a, off, cap, vs, own, rfl, hg, hv, hl⟩
  · simp at hi
  · refine ⟨a, off + i * E.e, rfl, fun j v hj => ?_⟩
    have hj' := (List.getElem?_eq_some_iff.1 hj).1
    rw [E.len] at hj'
    rw [hg]
    show vs[off + i * E.e + j]? = some v
    have h1 := flat_at E hx
    have h2 : (i + 1) * E.e ≤ l.length * E.e := Nat.mul_le_mul_right _ hi
    have h3 : (i + 1) * E.e = i * E.e + E.e := Nat.succ_mul _ _
    rw [← hj, ← h1, ← hv, List.getElem?_take, if_pos hj', List.getElem?_drop, List.getElem?_take, if_pos (by omega), List.getElem?_drop]
    congr 1
    omega
/-- One by one. -/
def All2 {A B : Type} (R : A → B → Prop) : List A → List B → Prop
  | [], [] => True
  | a :: as, b :: bs => R a b ∧ All2 R as bs
  | _, _ => False
theorem All2.len {A B : Type} {R : A → B → Prop} : ∀ {as : List A} {bs : List B}, All2 R as bs → as.length = bs.length
  | [], [], _ => rfl
  | _ :: _, _ :: _, h => by simp only [List.length_cons, h.2.len]
  | [], _ :: _, h => h.elim
  | _ :: _, [], h => h.elim
theorem All2.mono {A B : Type} {R S : A → B → Prop} (hm : ∀ a b, R a b → S a b) : ∀ {as : List A} {bs : List B}, All2 R as bs → All2 S as bs
  | [], [], _ => trivial
  | _ :: _, _ :: _, h => ⟨hm _ _ h.1, h.2.mono hm⟩
  | [], _ :: _, h => h.elim
  | _ :: _, [], h => h.elim
theorem All2.get {A B : Type} {R : A → B → Prop} : ∀ {as : List A} {bs : List B}, All2 R as bs → ∀ {k : Nat} {b : B}, bs[k]? = some b → ∃ a, as[k]? = some a ∧ R a b
  | [], [], _, _, _, h => by simp at h
  | a :: _, _ :: _, h, 0, b, hb => by simp only [List.getElem?_cons_zero, Option.some.injEq] at hb; subst hb; exact ⟨a, rfl, h.1⟩
  | _ :: _, _ :: _, h, k + 1, b, hb => by simpa using h.2.get (by simpa using hb)
  | [], _ :: _, h, _, _, _ => h.elim
  | _ :: _, [], h, _, _, _ => h.elim
theorem All2.snoc {A B : Type} {R : A → B → Prop} : ∀ {as : List A} {bs : List B}, All2 R as bs → ∀ {a : A} {b : B}, R a b → All2 R (as ++ [a]) (bs ++ [b])
  | [], [], _, _, _, h => ⟨h, trivial⟩
  | _ :: _, _ :: _, h, _, _, h' => ⟨h.1, h.2.snoc h'⟩
  | [], _ :: _, h, _, _, _ => h.elim
  | _ :: _, [], h, _, _, _ => h.elim
theorem drop_at {A : Type} {l : List A} {k : Nat} (h : k < l.length) : ∃ x, l[k]? = some x ∧ l.drop k = x :: l.drop (k + 1) := ⟨l[k], List.getElem?_eq_getElem h, List.drop_eq_getElem_cons h⟩
theorem alloc_set' (g : LHeap) (o p : LObj) : (g.alloc o).set g.next p = g.alloc p := LHeap.ext (fun i => by simp only [LHeap.get_set, LHeap.get_alloc]; split <;> rfl) rfl
/-- Several cells are stored. -/
def lenIs : List LV → Nat → Bool
  | [], 0 => true
  | _ :: l, n + 1 => lenIs l n
  | _, _ => false
def overAt : Nat → List LV → List LV → Option (List LV)
  | 0, [], ws => some ws
  | 0, x :: xs, _ :: ws => if x.cell = true then (overAt 0 xs ws).map (x :: ·) else none
  | 0, _ :: _, [] => none
  | _ + 1, _, [] => none
  | k + 1, xs, w :: ws => (overAt k xs ws).map (w :: ·)
def stB (g : LHeap) (a : Nat) (own : Own) : Bool → Option (List LV) → Option LHeap
  | true, some ws => if own ≠ .ro then some (g.set a (.cells ws own)) else none
  | _, _ => none
def stA (g : LHeap) (a n off : Nat) (cs : List LV) : Option LObj → Option LHeap
  | some (.cells vs own) => stB g a own (lenIs cs n) (overAt off cs vs)
  | _ => none
theorem lenIs_iff : ∀ (l : List LV) (n : Nat), lenIs l n = true ↔ l.length = n
  | [], 0 => by simp [lenIs]
  | [], n + 1 => by simp [lenIs]
  | _ :: _, 0 => by simp [lenIs]
  | _ :: l, n + 1 => by simp [lenIs, lenIs_iff l n]
theorem over_spec : ∀ (off : Nat) (cs vs ws : List LV), overAt off cs vs = some ws → (off + cs.length ≤ vs.length ∨ cs = []) ∧ cs.all LV.cell = true ∧ ws = splice vs off cs
  | 0, [], vs, ws, h => by simp only [overAt, Option.some.injEq] at h; subst h; exact ⟨.inr rfl, rfl, by simp [splice]⟩
  | 0, x :: xs, v :: vs, ws, h => by
    simp only [overAt] at h
    split at h
    · rename_i hx
      obtain ⟨us, hu, rfl⟩ := Option.map_eq_some_iff.1 h
      obtain ⟨h1, h2, rfl⟩ := over_spec 0 xs vs us hu
      refine ⟨.inl ?_, by simp [hx, h2], by simp [splice]⟩
      rcases h1 with h1 | rfl
      · simp only [List.length_cons]; omega
      · simp
    · cases h
  | 0, _ :: _, [], _, h => by simp [overAt] at h
  | k + 1, _, [], _, h => by simp [overAt] at h
  | k + 1, cs, v :: vs, ws, h => by
    simp only [overAt] at h
    obtain ⟨us, hu, rfl⟩ := Option.map_eq_some_iff.1 h
    obtain ⟨h1, h2, rfl⟩ := over_spec k cs vs us hu
    refine ⟨?_, h2, ?_⟩
    · rcases h1 with h1 | h1
      · exact .inl (by simp only [List.length_cons]; omega)
      · exact .inr h1
    · simp only [splice, List.take_succ_cons, List.cons_append]
      rw [show k + 1 + cs.length = (k + cs.length) + 1 by omega, List.drop_succ_cons]
theorem over_some : ∀ (off : Nat) (cs vs : List LV), off + cs.length ≤ vs.length → cs.all LV.cell = true → ∃ ws, overAt off cs vs = some ws
  | 0, [], vs, _, _ => ⟨vs, by cases vs <;> rfl⟩
  | 0, x :: xs, [], h, _ => by simp at h
  | 0, x :: xs, v :: vs, h, hc => by
    simp only [List.all_cons, Bool.and_eq_true] at hc
    obtain ⟨ws, e⟩ := over_some 0 xs vs (by simp only [List.length_cons] at h; omega) hc.2
    exact ⟨x :: ws, by simp [overAt, hc.1, e]⟩
  | k + 1, cs, [], h, _ => by simp at h
  | k + 1, cs, v :: vs, h, hc => by
    obtain ⟨ws, e⟩ := over_some k cs vs (by simp only [List.length_cons] at h; omega) hc
    exact ⟨v :: ws, by simp [overAt, e]⟩
theorem store_agg (a off n : Nat) (c : LV) (cs : List LV) (g : LHeap) : storeV n (.ptr a off) (.agg (c :: cs)) g = stA g a n off (c :: cs) (g.get a) := by
  have e : storeV n (.ptr a off) (.agg (c :: cs)) g = if (c :: cs).length = n then storeCellsL a off (c :: cs) g else none := rfl
  rw [e]
  have hne : c :: cs ≠ [] := by simp
  generalize c :: cs = l at hne ⊢
  cases hg : g.get a with
  | none => simp [stA, storeCellsL, hg]
  | some o =>
    cases o with
    | cells vs own =>
      simp only [stA, storeCellsL, hg]
      cases hl : lenIs l n with
      | false => rw [if_neg (fun h => by rw [(lenIs_iff l n).2 h] at hl; cases hl)]; rfl
      | true =>
        rw [if_pos ((lenIs_iff l n).1 hl)]
        cases ho : overAt off l vs with
        | some ws =>
          obtain ⟨h3, h4, rfl⟩ := over_spec _ _ _ _ ho
          simp only [stB]
          by_cases hr : own = .ro
          · rw [if_neg (fun h => h.1 hr), if_neg (fun h => h hr)]
          · rw [if_pos ⟨hr, h3.resolve_right hne, h4⟩, if_pos hr]
        | none =>
          simp only [stB]
          rw [if_neg]
          rintro ⟨_, h1, h2⟩
          obtain ⟨ws, e⟩ := over_some off l vs h1 h2
          rw [ho] at e
          cases e
    | _ => simp [stA, storeCellsL, hg]
def mkO (g : LHeap) (cs : List LV) : Bool → Option (LV × LHeap)
  | true => some (.ptr g.next 0, g.alloc (.cells cs .ex))
  | false => none
theorem new_o (cs : List LV) (g : LHeap) : newL (.agg cs) g = mkO g cs (cs.all LV.cell) := by
  cases h : cs.all LV.cell with
  | true => exact new_agg cs g (List.all_eq_true.1 h)
  | false =>
    unfold newL LV.cellsOK
    rw [if_neg (by show ¬ (cs.all LV.cell = true); rw [h]; decide)]
    rfl
def mk1 (g : LHeap) (v : LV) : Bool → Option (LV × LHeap)
  | true => some (.ptr g.next 0, g.alloc (.cells [v] .ex))
  | false => none
/-- What is a cell; new objects; several cells stored. -/
theorem shc : ((∀ b, (LV.bool b).cell = true) ∧ (∀ k n, (LV.int k n).cell = true) ∧ (∀ s, (LV.str s).cell = true) ∧ (∀ a off, (LV.ptr a off).cell = true) ∧ LV.nilp.cell = true ∧ (∀ a off len c, (LV.slice a off len c).cell = true) ∧
    (∀ a off alt e z, (LV.tail a off alt e z).cell = true) ∧ LV.nils.cell = true ∧ (∀ a, (LV.map a).cell = true) ∧ LV.nilm.cell = true ∧ (∀ f a b, (LV.func f a b).cell = true) ∧ LV.nilf.cell = true ∧ (∀ t v, (LV.iface t v).cell = true) ∧ LV.nili.cell = true) ∧
    ((∀ cs g, newL (.agg cs) g = mkO g cs (cs.all LV.cell)) ∧ (∀ g cs, mkO g cs true = some (.ptr g.next 0, g.alloc (.cells cs .ex))) ∧ (∀ x l, (x :: l).all LV.cell = (x.cell && l.all LV.cell)) ∧ ([] : List LV).all LV.cell = true ∧ (true && true) = true) ∧
    ((∀ a off n c cs g, storeV n (.ptr a off) (.agg (c :: cs)) g = stA g a n off (c :: cs) (LHeap.get g a)) ∧ (∀ g a n off cs vs own, stA g a n off cs (some (.cells vs own)) = stB g a own (lenIs cs n) (overAt off cs vs)) ∧ (∀ g a ws, stB g a .ex true (some ws) = some (g.set a (.cells ws .ex))) ∧ (∀ g a ws, stB g a .op true (some ws) = some (g.set a (.cells ws .op))) ∧
     lenIs [] 0 = true ∧ (∀ x l n, lenIs (x :: l) (n + 1) = lenIs l n) ∧ (∀ ws, overAt 0 [] ws = some ws) ∧ (∀ x xs w ws, overAt 0 (x :: xs) (w :: ws) = if x.cell = true then (overAt 0 xs ws).map (x :: ·) else none) ∧ (∀ k xs w ws, overAt (k + 1) xs (w :: ws) = (overAt k xs ws).map (w :: ·)) ∧
     (∀ (f : List LV → List LV) v, Option.map f (some v) = some (f v)) ∧ (∀ A B : Option (List LV), (if True then A else B) = A)) ∧
    ((∀ g o p, (LHeap.alloc g o).set g.next p = g.alloc p) ∧ (∀ p : Prop, (p ∧ True) = p) ∧ (∀ p : Prop, (True ∧ p) = p)) :=
  ⟨⟨fun _ => rfl, fun _ _ => rfl, fun _ => rfl, fun _ _ => rfl, rfl, fun _ _ _ _ => rfl, fun _ _ _ _ _ => rfl, rfl, fun _ => rfl, rfl, fun _ _ _ => rfl, rfl, fun _ _ => rfl, rfl⟩,
   ⟨new_o, fun _ _ => rfl, fun _ _ => rfl, rfl, rfl⟩, ⟨store_agg, fun _ _ _ _ _ _ _ => rfl, fun _ _ _ => by simp [stB], fun _ _ _ => by simp [stB], rfl, fun _ _ _ => rfl, fun ws => by cases ws <;> rfl, fun _ _ _ _ => rfl, fun k xs w ws => by cases xs <;> rfl, fun _ _ => rfl, fun _ _ => if_pos trivial⟩, alloc_set', and_true, true_and⟩
theorem Fr.alloc' {F : Nat → Prop} {g h : LHeap} (f : Fr F g h) (o : LObj) : Fr F g (h.alloc o) := ⟨Nat.le_trans f.le (Nat.le_succ _), fun a ha hF => (get_alloc_ne h o (Nat.ne_of_lt (Nat.lt_of_lt_of_le ha f.le))).trans (f.eq a ha hF)⟩
theorem Fr.set' {F : Nat → Prop} {g h : LHeap} (f : Fr F g h) {a : Nat} (o : LObj) (ha : g.next ≤ a ∨ F a) : Fr F g (h.set a o) := ⟨f.le, fun b hb hF => by
  rw [get_set_ne h o]
  · exact f.eq b hb hF
  · rcases ha with ha | ha
    · omega
    · intro e; subst e; exact hF ha⟩


/-! ### What is appended -/
def appOK (P : Program) (t : TypeId) (e b : Nat) : Bool :=
  match sliceElem P t with
  | some et => match P.info? et with
    | some i => match i.zero with
      | some z => Nat.beq i.size e && (Nat.beq i.bytes b && (!(Nat.beq e 0) && (!(Nat.beq b 0) && Nat.beq z.cells.size e)))
      | none => false
    | none => false
  | none => false
theorem append_ok {t : TypeId} {e b : Nat} (h : appOK P t e b = true) {V U : LV} (hU : U.isStr = false) (g : LHeap) : builtinL P .append [t, t] [V, U] g = appendL e b V U g := by
  unfold appOK at h
  split at h
  · rename_i et h1
    split at h
    · rename_i i h2
      split at h
      · rename_i z h3
        simp only [Bool.and_eq_true, Bool.not_eq_true'] at h
        obtain ⟨e1, e2, e3, e4, e5⟩ := h
        have e1 := Nat.eq_of_beq_eq_true e1
        have e2 := Nat.eq_of_beq_eq_true e2
        have e5 := Nat.eq_of_beq_eq_true e5
        have ne : ∀ {x y : Nat}, x.beq y = false → x ≠ y := fun {x y} h he => by
          subst he
          rw [Nat.beq_refl] at h
          cases h
        have hu : ∃ e', P.underlying t = some (.slice e') := by
          unfold sliceElem at h1
          split at h1
          · rename_i e' hh; exact ⟨e', hh⟩
          · cases h1
        obtain ⟨e', hu⟩ := hu
        rw [b_append]
        simp only [appendT, h1, hu, h2, h3]
        rw [if_neg, e1, e2]
        rintro (h | h | h | ⟨h, _⟩)
        · exact ne e3 (e1.symm.trans h)
        · exact ne e4 (e2.symm.trans h)
        · exact h (e5.trans e1.symm)
        · rw [hU] at h; cases h
      · cases h
    · cases h
  · cases h
variable {X : Type} {E : Enc X}
/-- A row that is one's own: nobody else names its cells; it lies at or above 'base'. -/
structure Vec (E : Enc X) (base : Nat) (h : LHeap) (V : LV) (l : List X) : Prop where
  row : Row h V E l
  grow : Grow h V E.e
  lo : ∀ a, V.obj = some a → base ≤ a ∧ a < h.next
theorem Vec.up {base : Nat} {h h' : LHeap} {V : LV} {l : List X} (O : Vec E base h V l) {F : Nat → Prop} (f : Fr F h h') (hF : ∀ a, V.obj = some a → ¬ F a) : Vec E base h' V l :=
  ⟨O.row.fr fun a ha => f.eq a (O.lo a ha).2 (hF a ha), O.grow.fr fun a ha => f.eq a (O.lo a ha).2 (hF a ha), fun a ha => ⟨(O.lo a ha).1, Nat.lt_of_lt_of_le (O.lo a ha).2 f.le⟩⟩
theorem Vec.nils (base : Nat) (h : LHeap) : Vec E base h .nils [] := ⟨Row.nils h E, trivial, fun a ha => by cases ha⟩
/-- Behind an append to a row of one's own. -/
theorem Vec.app' {base bytes : Nat} {h : LHeap} {V U : LV} {l m : List X} (O : Vec E base h V l) (R : Row h U E m) (hb : (l.length + m.length) * bytes * 2 ≤ 2 ^ 48 ∨ ((l.length + m.length) * 5 + 2048) * bytes ≤ 2 ^ 50) (hbase : base ≤ h.next) :
    ∃ V' h', appendL E.e bytes V U h = some (V', h') ∧ Vec E base h' V' (l ++ m) ∧ Fr (fun a => V.obj = some a) h h' ∧ (∀ a, V'.obj = some a → V.obj = some a ∨ h.next ≤ a) ∧ (m ≠ [] → Mine h' V') := by
  obtain ⟨V', h', e, R', G', C⟩ := append_row O.row O.grow R hb
  rcases C with ⟨rfl, rfl, rfl⟩ | ⟨_, mi, f, n⟩
  · exact ⟨_, _, e, ⟨R', G', O.lo⟩, Fr.refl _ _, fun a ha => .inl ha, fun h => (h rfl).elim⟩
  · refine ⟨V', h', e, ⟨R', G', fun a ha => ?_⟩, ⟨?_, fun a ha hF => f a hF (by omega)⟩, fun a ha => ?_, fun _ => mi⟩
    · rcases n with ⟨h1, h2⟩ | ⟨h1, _, h2⟩
      · rw [h1] at ha; cases ha; omega
      · rw [h1] at ha; have := O.lo a ha; omega
    · rcases n with ⟨_, h2⟩ | ⟨_, _, h2⟩ <;> omega
    · rcases n with ⟨h1, h2⟩ | ⟨h1, _, h2⟩
      · rw [h1] at ha; cases ha; exact .inr (Nat.le_refl _)
      · rw [h1] at ha; exact .inl ha
/-- Behind an append to a row of one's own. -/
theorem Vec.app {base bytes : Nat} {h : LHeap} {V U : LV} {l m : List X} (O : Vec E base h V l) (R : Row h U E m) (hb : (l.length + m.length) * bytes * 2 ≤ 2 ^ 48 ∨ ((l.length + m.length) * 5 + 2048) * bytes ≤ 2 ^ 50) (hbase : base ≤ h.next) :
    ∃ V' h', appendL E.e bytes V U h = some (V', h') ∧ Vec E base h' V' (l ++ m) ∧ Fr (fun a => V.obj = some a) h h' ∧ (∀ a, V'.obj = some a → V.obj = some a ∨ h.next ≤ a) := by
  obtain ⟨V', h', e, O, f, n, _⟩ := O.app' R hb hbase
  exact ⟨V', h', e, O, f, n⟩

end Go.Lm
