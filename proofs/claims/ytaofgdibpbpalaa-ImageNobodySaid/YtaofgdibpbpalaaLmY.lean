/-
  The logical machine, part Y: calls that depend on one value alone, by a table.
-/
import Derived.Test.YtaofgdibpbpalaaLmX
namespace Go.Lm

variable {P : Program}

/-- Integers that it is not. -/
def neAll (e : Int) : List Int → Prop → Prop
  | [], K => K
  | k :: ks, K => some (e == k) = some false ∧ neAll e ks K
theorem neAll_of {e : Int} {K : Prop} (hK : K) : ∀ {ks : List Int}, (∀ k ∈ ks, e ≠ k) → neAll e ks K
  | [], _ => hK
  | k :: ks, h => ⟨by rw [beq_eq_false_iff_ne.2 (h k (by simp))], neAll_of hK fun k hk => h k (by simp [hk])⟩
theorem binL_eql_int (t : TypeId) (lit : Bool) (k : IntKind) (a b : Int) : binL P .eql t lit (.int k a) (.int k b) = some (.bool (a == b)) := by cases k <;> rfl
theorem binL_neq_int (t : TypeId) (lit : Bool) (k : IntKind) (a b : Int) : binL P .neq t lit (.int k a) (.int k b) = some (.bool (!(a == b))) := by cases k <;> rfl
theorem binL_lss_int (t : TypeId) (lit : Bool) (k : IntKind) (a b : Int) : binL P .lss t lit (.int k a) (.int k b) = some (.bool (decide (a < b))) := by cases k <;> rfl
theorem binL_leq_int (t : TypeId) (lit : Bool) (k : IntKind) (a b : Int) : binL P .leq t lit (.int k a) (.int k b) = some (.bool (decide (a ≤ b))) := by cases k <;> rfl
theorem binL_gtr_int (t : TypeId) (lit : Bool) (k : IntKind) (a b : Int) : binL P .gtr t lit (.int k a) (.int k b) = some (.bool (decide (a > b))) := by cases k <;> rfl
theorem binL_geq_int (t : TypeId) (lit : Bool) (k : IntKind) (a b : Int) : binL P .geq t lit (.int k a) (.int k b) = some (.bool (decide (a ≥ b))) := by cases k <;> rfl
theorem binL_eql_str (t : TypeId) (lit : Bool) (a b : List UInt8) : binL P .eql t lit (.str a) (.str b) = some (.bool (a == b)) := rfl
theorem binL_neq_str (t : TypeId) (lit : Bool) (a b : List UInt8) : binL P .neq t lit (.str a) (.str b) = some (.bool (!(a == b))) := rfl
/-- This, asked of each of these integers (on the right, on the left), is no. -/
def noAll (P : Program) (t : TypeId) (lit : Bool) (k : IntKind) (e : Int) : List Int → Prop → Prop
  | [], K => K
  | x :: xs, K => binL P .eql t lit (.int k e) (.int k x) = some (.bool false) ∧ noAll P t lit k e xs K
def noAll' (P : Program) (t : TypeId) (lit : Bool) (k : IntKind) (e : Int) : List Int → Prop → Prop
  | [], K => K
  | x :: xs, K => binL P .eql t lit (.int k x) (.int k e) = some (.bool false) ∧ noAll' P t lit k e xs K
theorem noAll_of {t : TypeId} {lit : Bool} {k : IntKind} {e : Int} {K : Prop} (hK : K) : ∀ {ks : List Int}, (∀ k ∈ ks, e ≠ k) → noAll P t lit k e ks K
  | [], _ => hK
  | x :: xs, h => ⟨by rw [binL_eql_int, beq_eq_false_iff_ne.2 (h x (by simp))], noAll_of hK fun k hk => h k (by simp [hk])⟩
theorem noAll'_of {t : TypeId} {lit : Bool} {k : IntKind} {e : Int} {K : Prop} (hK : K) : ∀ {ks : List Int}, (∀ k ∈ ks, e ≠ k) → noAll' P t lit k e ks K
  | [], _ => hK
  | x :: xs, h => ⟨by rw [binL_eql_int, beq_eq_false_iff_ne.2 (fun e => h x (by simp) e.symm)], noAll'_of hK fun k hk => h k (by simp [hk])⟩
/-- The same of strings. -/
def noStr (P : Program) (t : TypeId) (lit : Bool) (e : List UInt8) : List (List UInt8) → Prop → Prop
  | [], K => K
  | x :: xs, K => binL P .eql t lit (.str x) (.str e) = some (.bool false) ∧ noStr P t lit e xs K
theorem noStr_of {t : TypeId} {lit : Bool} {e : List UInt8} {K : Prop} (hK : K) : ∀ {ks : List (List UInt8)}, (∀ k ∈ ks, e ≠ k) → noStr P t lit e ks K
  | [], _ => hK
  | x :: xs, h => ⟨by rw [binL_eql_str, beq_eq_false_iff_ne.2 (fun e => h x (by simp) e.symm)], noStr_of hK fun k hk => h k (by simp [hk])⟩

/-- A table's answer. -/
def tblOf (tbl : List (LV × LV)) (d : LV) (x : LV) : LV :=
  match tbl.find? fun e => e.1.eqb x with
  | some e => e.2
  | none => d
theorem tblOf_cases {tbl : List (LV × LV)} {d x : LV} {Q : LV → LV → Prop} (h1 : ∀ e ∈ tbl, Q e.1 e.2) (h2 : (∀ e ∈ tbl, e.1.eqb x = false) → Q x d) : Q x (tblOf tbl d x) := by
  unfold tblOf
  split
  · rename_i e he
    have h3 := List.find?_some he
    have := LV.eqb_eq _ _ h3
    rw [← this]
    exact h1 e (List.mem_of_find?_eq_some he)
  · rename_i he
    exact h2 fun e hm => by
      have := List.find?_eq_none.1 he e hm
      simpa using this
/-- A call of one plain value is told by a table: the kernel has computed each of its lines, and what is in no line is told by the rest. -/
theorem pure_table (hm : P.follows .mixedOrders = true) {l : List FuncId} (hl : l.all (fineF P) = true) {n : Nat} {f : FuncId} {tbl : List (LV × LV)} {d x : LV}
    (hc : (tbl.all fun e => flats [e.1] && e.2.flat && callB P l n f [e.1] (emp 0) fun v _ => v.eqb e.2) = true) (ho : (∀ e ∈ tbl, e.1.eqb x = false) → Pure P f [x] d) : Pure P f [x] (tblOf tbl d x) := by
  refine tblOf_cases (Q := fun a b => Pure P f [a] b) (fun e he => ?_) ho
  have := List.all_eq_true.1 hc e he
  simp only [Bool.and_eq_true] at this
  exact Pure.of this.1.1 this.1.2 ((callB_sound hm hl n f _ _ _ this.2).mono fun v _ h => LV.eqb_eq _ _ h)
theorem pure_computed (hm : P.follows .mixedOrders = true) {l : List FuncId} (hl : l.all (fineF P) = true) {n : Nat} {f : FuncId} {args : List LV} {r : LV}
    (hc : (flats args && r.flat && callB P l n f args (emp 0) fun v _ => v.eqb r) = true) : Pure P f args r := by
  simp only [Bool.and_eq_true] at hc
  exact Pure.of hc.1.1 hc.1.2 ((callB_sound hm hl n f _ _ _ hc.2).mono fun v _ h => LV.eqb_eq _ _ h)
theorem pure_asked (hm : P.follows .mixedOrders = true) {l : List FuncId} (hl : l.all (fineF P) = true) {B : Known} {O : Answers} {n : Nat} {f : FuncId} {args : List LV} {r : LV} (ha : flats args = true) (hr : r.flat = true)
    (h : callQ P l B O n f args (emp 0) fun v _ => v = r) : Pure P f args r :=
  Pure.of ha hr (callQ_sound hm hl n f args (emp 0) _ _ (fun _ _ h => h) h)
theorem pure_asked' (hm : P.follows .mixedOrders = true) {l : List FuncId} (hl : l.all (fineF P) = true) {B : Known} {O : Answers} {n : Nat} {f : FuncId} {args : List LV} {r : LV} {Q : Prop} (ha : (flats args && r.flat) = true)
    (h : callQ P l B O n f args (emp 0) (fun v _ => v = r) = Q) (hq : Q) : Pure P f args r := by
  simp only [Bool.and_eq_true] at ha
  exact pure_asked hm hl ha.1 ha.2 (h.symm ▸ hq)
theorem asked_true (hm : P.follows .mixedOrders = true) {l : List FuncId} (hl : l.all (fineF P) = true) {B : Known} {O : Answers} {n : Nat} {f : FuncId} {args : List LV} {g : LHeap} {Q : Prop}
    (h : callQ P l B O n f args g (fun v _ => v = .bool true) = Q) (hq : Q) : Ok P f args g fun v _ => v = .bool true :=
  callQ_sound hm hl n f args g _ _ (fun _ _ h => h) (h.symm ▸ hq)

theorem Le.refl_of {C : CallSem} (h : Mono C) : Le C C := h
/-- Asked, whatever objects are handed in and never looked at. -/
theorem blind_asked (hm : P.follows .mixedOrders = true) {l : List FuncId} (hl : l.all (fineF P) = true) {B : Known} {O : Answers} {n k : Nat} {f : FuncId} {args : List LV} {g : LHeap} {Q : Prop} (s : Nat → Nat) (hk : unders k args = true)
    (h : callQ P l B O n f args (emp k) (fun v _ => v = .bool true) = Q) (hq : Q) : Ok P f (rens s args) g fun v _ => v = .bool true :=
  (Ok.blind (g := g) s (callQ_sound hm hl n f args (emp k) _ _ (fun _ _ h => h) (h.symm ▸ hq)) hk fun v g0 h => by rw [h]; rfl).mono fun _ _ ⟨_, _, h⟩ => h

end Go.Lm
