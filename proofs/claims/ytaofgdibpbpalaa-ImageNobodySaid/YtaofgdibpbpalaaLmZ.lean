/-
  The logical machine, part Z: what it takes to read a function's printed code step by step.
-/
import Derived.Test.YtaofgdibpbpalaaLmY
import Derived.IntWalk
namespace Go.Lm

variable {P : Program} {C : CallSem} {g : LHeap}

/-- Not by unfolding. -/
theorem nr {α : Sort _} {a b : α} (h : a = b) : a = b := h
theorem c2_seq (a b : Code) (st : LSt) (K : LEx → LSt → Prop) : code2 P C (.seq a b) st K = code2 P C a st (thenL (fun st' => code2 P C b st' K) K) := nr rfl
theorem c2_block (i : Nat) (b : Code) (st : LSt) (K : LEx → LSt → Prop) : code2 P C (.block i b) st K = code2 P C b st (exitL i K) := nr rfl
theorem c2_loop (b : Code) (st : LSt) (K : LEx → LSt → Prop) : code2 P C (.loop b) st K = loopL (code2 P C b) st K := nr rfl
theorem c2_skip (st : LSt) (K : LEx → LSt → Prop) : code2 P C .skip st K = K .normal st := nr rfl
theorem c2_exit (i : Nat) (st : LSt) (K : LEx → LSt → Prop) : code2 P C (.exit i) st K = K (.exit i) st := nr rfl
theorem c2_ret (st : LSt) (K : LEx → LSt → Prop) : code2 P C .ret st K = K .ret st := nr rfl
theorem then_normal (k : LSt → Prop) (K : LEx → LSt → Prop) (st : LSt) : thenL k K .normal st = k st := nr rfl
theorem then_exit (k : LSt → Prop) (K : LEx → LSt → Prop) (st : LSt) (i : Nat) : thenL k K (.exit i) st = K (.exit i) st := nr rfl
theorem then_ret (k : LSt → Prop) (K : LEx → LSt → Prop) (st : LSt) : thenL k K .ret st = K .ret st := nr rfl
theorem exit_normal (i : Nat) (K : LEx → LSt → Prop) (st : LSt) : exitL i K .normal st = K .normal st := nr rfl
theorem exit_ret (i : Nat) (K : LEx → LSt → Prop) (st : LSt) : exitL i K .ret st = K .ret st := nr rfl
theorem exit_exit (i j : Nat) (K : LEx → LSt → Prop) (st : LSt) : exitL i K (.exit j) st = if j = i then K .normal st else K (.exit j) st := by
  simp only [exitL]
  by_cases h : j = i
  · simp [h]
  · have : Nat.beq j i = false := by
      cases hb : Nat.beq j i with
      | false => rfl
      | true => exact absurd (Nat.eq_of_beq_eq_true hb) h
    simp [h, this]
theorem put_at (tm : Nat → LV) (d : Nat) (v : LV) (i : Nat) : putL tm (some d) v i = if i = d then v else tm i := by
  simp only [putL]
  by_cases h : i = d
  · simp [h]
  · have : Nat.beq i d = false := by
      cases hb : Nat.beq i d with
      | false => rfl
      | true => exact absurd (Nat.eq_of_beq_eq_true hb) h
    simp [h, this]
theorem binL_add_int (t : TypeId) (lit : Bool) (k : IntKind) (a b : Int) : binL P .add t lit (.int k a) (.int k b) = some (.int k (k.wrap (a + b))) := by cases k <;> rfl
theorem binL_sub_int (t : TypeId) (lit : Bool) (k : IntKind) (a b : Int) : binL P .sub t lit (.int k a) (.int k b) = some (.int k (k.wrap (a - b))) := by cases k <;> rfl
theorem binL_mul_int (t : TypeId) (lit : Bool) (k : IntKind) (a b : Int) : binL P .mul t lit (.int k a) (.int k b) = some (.int k (k.wrap (a * b))) := by cases k <;> rfl
theorem pick_true (a b : LV) : pickL (.bool true) a b = some a := nr rfl
theorem pick_false (a b : LV) : pickL (.bool false) a b = some b := nr rfl
theorem ifB_of (b : Bool) (A B : Prop) : ifB (.bool b) A B = if b then A else B := by cases b <;> simp
theorem nilCheck_ptr (a off : Nat) : nilCheckL (.ptr a off) = some (.ptr a off) := nr rfl
theorem unL_not (b : Bool) : unL .not (.bool b) = some (.bool !b) := by cases b <;> rfl
/-- Down the code, as far as nothing is asked. -/
theorem set_same {a : Nat} {o : LObj} (h : g.get a = some o) : g.set a o = g :=
  LHeap.ext (fun i => by
    simp only [LHeap.get_set]
    split
    · rename_i e; rw [e, h]
    · rfl) rfl
theorem set_set (a : Nat) (o p : LObj) : (g.set a o).set a p = g.set a p :=
  LHeap.ext (fun i => by simp only [LHeap.get_set]; split <;> rfl) rfl
theorem get_set_same (a : Nat) (o : LObj) : (g.set a o).get a = some o := by simp
/-- Behind a round. -/
def roundL (I : LSt → Prop) (μ : LSt → Nat) (s : LSt) (K : LEx → LSt → Prop) : LEx → LSt → Prop := fun e s' =>
  match e with
  | .normal => I s' ∧ μ s' < μ s
  | e => K e s'
theorem round_normal (I : LSt → Prop) (μ : LSt → Nat) (s st : LSt) (K : LEx → LSt → Prop) : roundL I μ s K .normal st = (I st ∧ μ st < μ s) := nr rfl
theorem round_exit (I : LSt → Prop) (μ : LSt → Nat) (s st : LSt) (K : LEx → LSt → Prop) (i : Nat) : roundL I μ s K (.exit i) st = K (.exit i) st := nr rfl
theorem round_ret (I : LSt → Prop) (μ : LSt → Nat) (s st : LSt) (K : LEx → LSt → Prop) : roundL I μ s K .ret st = K .ret st := nr rfl
/-- A loop, from a state that stands at it: an invariant with a measure. -/
theorem loop_of {body : LSt → (LEx → LSt → Prop) → Prop} {st : LSt} {K : LEx → LSt → Prop} (I : LSt → Prop) (μ : LSt → Nat) (h : I st) (hr : ∀ s, I s → body s (roundL I μ s K)) : loopL body st K := ⟨I, μ, h, hr⟩
theorem vK_i {x : Option LV} {v : LV} {K : LV → Prop} (h : x = some v) (k : K v) : vK x K := by rw [h]; exact k
theorem gK_i {x : Option LHeap} {v : LHeap} {K : LHeap → Prop} (h : x = some v) (k : K v) : gK x K := by rw [h]; exact k
theorem oK_i {x : Option (LV × LHeap)} {v : LV} {g' : LHeap} {K : LV → LHeap → Prop} (h : x = some (v, g')) (k : K v g') : oK x K := by rw [h]; exact k
theorem ifB_t {c : LV} {A B : Prop} (h : c = .bool true) (k : A) : ifB c A B := by rw [h]; exact k
theorem ifB_f {c : LV} {A B : Prop} (h : c = .bool false) (k : B) : ifB c A B := by rw [h]; exact k
theorem ok_i {f : FuncId} {args : List LV} {K : LV → LHeap → Prop} {S : LV → LHeap → Prop} (h : Ok P f args g S) (k : ∀ v g', S v g' → K v g') : Ok P f args g K := h.mono k

theorem gdv_f {x : Option LV} {v : LV} {K : LV → LHeap → Prop} (h : x = some v) (k : K v g) : gd (.bool false) false g (fun K => vK x fun v => K v g) K := by rw [gd_false', h]; exact k
theorem gdv_t {x : Option LV} {v : LV} {K : LV → LHeap → Prop} (h : x = some v) (k : K v g) : gd (.bool true) true g (fun K => vK x fun v => K v g) K := by rw [gd_true, h]; exact k
theorem gdo_f {x : Option (LV × LHeap)} {v : LV} {g' : LHeap} {K : LV → LHeap → Prop} (h : x = some (v, g')) (k : K v g') : gd (.bool false) false g (fun K => oK x K) K := by rw [gd_false', h]; exact k
theorem gdo_t {x : Option (LV × LHeap)} {v : LV} {g' : LHeap} {K : LV → LHeap → Prop} (h : x = some (v, g')) (k : K v g') : gd (.bool true) true g (fun K => oK x K) K := by rw [gd_true, h]; exact k
theorem gdk_f {x : LV} {K : LV → LHeap → Prop} (k : K x g) : gd (.bool false) false g (fun K => K x g) K := by rw [gd_false']; exact k
theorem gdk_t {x : LV} {K : LV → LHeap → Prop} (k : K x g) : gd (.bool true) true g (fun K => K x g) K := by rw [gd_true]; exact k
theorem gds_f {op : (LV → LHeap → Prop) → Prop} {K : LV → LHeap → Prop} (k : K undefL g) : gd (.bool true) false g op K := by rw [gd_true']; exact k
theorem gds_t {op : (LV → LHeap → Prop) → Prop} {K : LV → LHeap → Prop} (k : K undefL g) : gd (.bool false) true g op K := by rw [gd_false]; exact k
theorem gds_u {w : Bool} {op : (LV → LHeap → Prop) → Prop} {K : LV → LHeap → Prop} (k : K undefL g) : gd undefL w g op K := k
theorem gdVv_f {x : Option LV} {v : LV} {K : LV → Prop} (h : x = some v) (k : K v) : gdV (.bool false) false x K := by rw [gdV_false', h]; exact k
theorem gdVv_t {x : Option LV} {v : LV} {K : LV → Prop} (h : x = some v) (k : K v) : gdV (.bool true) true x K := by rw [gdV_true, h]; exact k
theorem gdVs_f {x : Option LV} {K : LV → Prop} (k : K undefL) : gdV (.bool true) false x K := by rw [gdV_true']; exact k
theorem gdVs_t {x : Option LV} {K : LV → Prop} (k : K undefL) : gdV (.bool false) true x K := by rw [gdV_false]; exact k
theorem gdVs_u {w : Bool} {x : Option LV} {K : LV → Prop} (k : K undefL) : gdV undefL w x K := k
theorem gdDv_f {x : Option LV} {v : LV} {K : LV → Prop} {N : Prop} (h : x = some v) (k : K v) : gdD (.bool false) false x K N := by rw [gdD_false', h]; exact k
theorem gdDv_t {x : Option LV} {v : LV} {K : LV → Prop} {N : Prop} (h : x = some v) (k : K v) : gdD (.bool true) true x K N := by rw [gdD_true, h]; exact k
theorem gdDs_f {x : Option LV} {K : LV → Prop} {N : Prop} (k : N) : gdD (.bool true) false x K N := by rw [gdD_true']; exact k
theorem gdDs_t {x : Option LV} {K : LV → Prop} {N : Prop} (k : N) : gdD (.bool false) true x K N := by rw [gdD_false]; exact k
theorem gdDs_u {w : Bool} {x : Option LV} {K : LV → Prop} {N : Prop} (k : N) : gdD undefL w x K N := k

theorem ok_a {f : FuncId} {args args' : List LV} {K : LV → LHeap → Prop} {S : LV → LHeap → Prop} (ha : args = args') (h : Ok P f args' g S) (k : ∀ v g', S v g' → K v g') : Ok P f args g K := by rw [ha]; exact h.mono k

theorem gdv_i {c : LV} {w : Bool} {x : Option LV} {v : LV} {K : LV → LHeap → Prop} (hc : c = .bool w) (h : x = some v) (k : K v g) : gd c w g (fun K => vK x fun v => K v g) K := by
  subst hc; cases w
  · exact gdv_f h k
  · exact gdv_t h k
theorem gdo_i {c : LV} {w : Bool} {x : Option (LV × LHeap)} {v : LV} {g' : LHeap} {K : LV → LHeap → Prop} (hc : c = .bool w) (h : x = some (v, g')) (k : K v g') : gd c w g (fun K => oK x K) K := by
  subst hc; cases w
  · exact gdo_f h k
  · exact gdo_t h k
theorem gdk_i {c : LV} {w : Bool} {x : LV} {K : LV → LHeap → Prop} (hc : c = .bool w) (k : K x g) : gd c w g (fun K => K x g) K := by
  subst hc; cases w
  · exact gdk_f k
  · exact gdk_t k
theorem gds_i {c : LV} {w : Bool} {op : (LV → LHeap → Prop) → Prop} {K : LV → LHeap → Prop} (hc : c = .bool (!w)) (k : K undefL g) : gd c w g op K := by
  subst hc; cases w
  · exact gds_f k
  · exact gds_t k
theorem gdVv_i {c : LV} {w : Bool} {x : Option LV} {v : LV} {K : LV → Prop} (hc : c = .bool w) (h : x = some v) (k : K v) : gdV c w x K := by
  subst hc; cases w
  · exact gdVv_f h k
  · exact gdVv_t h k
theorem gdVs_i {c : LV} {w : Bool} {x : Option LV} {K : LV → Prop} (hc : c = .bool (!w)) (k : K undefL) : gdV c w x K := by
  subst hc; cases w
  · exact gdVs_f k
  · exact gdVs_t k
theorem gdDv_i {c : LV} {w : Bool} {x : Option LV} {v : LV} {K : LV → Prop} {N : Prop} (hc : c = .bool w) (h : x = some v) (k : K v) : gdD c w x K N := by
  subst hc; cases w
  · exact gdDv_f h k
  · exact gdDv_t h k
theorem gdDs_i {c : LV} {w : Bool} {x : Option LV} {K : LV → Prop} {N : Prop} (hc : c = .bool (!w)) (k : N) : gdD c w x K N := by
  subst hc; cases w
  · exact gdDs_f k
  · exact gdDs_t k
theorem fa (o a off : Nat) : fieldAddrL o (.ptr a off) = some (.ptr a (off + o)) := nr rfl
theorem blen (t : TypeId) (x : LV) (h : LHeap) : builtinL P .len [t] [x] h = (lenL P t x h).map fun v => (v, h) := nr rfl
/-! Short names for what each step rests on. -/
section
variable {P : Program}
theorem zz1 (tm : Nat → LV) (d : Nat) (v : LV) (j : Nat) : putL tm (some d) v j = if j = d then v else tm j := put_at tm d v j
theorem zz2 (a b : LV) : pickL (.bool true) a b = some a := pick_true a b
theorem zz3 (a b : LV) : pickL (.bool false) a b = some b := pick_false a b
theorem zz4 (a off : Nat) : nilCheckL (.ptr a off) = some (.ptr a off) := nilCheck_ptr a off
theorem zz5 (b : Bool) : unL .not (.bool b) = some (.bool !b) := unL_not b
theorem zz6 (t : TypeId) (lit : Bool) (k : IntKind) (a b : Int) : binL P .lss t lit (.int k a) (.int k b) = some (.bool (decide (a < b))) := binL_lss_int t lit k a b
theorem zz7 (t : TypeId) (lit : Bool) (k : IntKind) (a b : Int) : binL P .gtr t lit (.int k a) (.int k b) = some (.bool (decide (b < a))) := binL_gtr_int t lit k a b
theorem zz8 (t : TypeId) (lit : Bool) (k : IntKind) (a b : Int) : binL P .eql t lit (.int k a) (.int k b) = some (.bool (a == b)) := binL_eql_int t lit k a b
theorem zz9 (t : TypeId) (lit : Bool) (k : IntKind) (a b : Int) : binL P .neq t lit (.int k a) (.int k b) = some (.bool (!(a == b))) := binL_neq_int t lit k a b
theorem zz10 (t : TypeId) (lit : Bool) (k : IntKind) (a b : Int) : binL P .add t lit (.int k a) (.int k b) = some (.int k (k.wrap (a + b))) := binL_add_int t lit k a b
theorem zz11 (t : TypeId) (lit : Bool) (k : IntKind) (a b : Int) : binL P .sub t lit (.int k a) (.int k b) = some (.int k (k.wrap (a - b))) := binL_sub_int t lit k a b
theorem zz12 (t : TypeId) (lit : Bool) (k : IntKind) (a b : Int) : binL P .mul t lit (.int k a) (.int k b) = some (.int k (k.wrap (a * b))) := binL_mul_int t lit k a b
theorem zz13 (t : TypeId) (lit : Bool) (k : IntKind) (a b : Int) : binL P .leq t lit (.int k a) (.int k b) = some (.bool (decide (a ≤ b))) := binL_leq_int t lit k a b
theorem zz14 (t : TypeId) (lit : Bool) (k : IntKind) (a b : Int) : binL P .geq t lit (.int k a) (.int k b) = some (.bool (decide (b ≤ a))) := binL_geq_int t lit k a b
end

end Go.Lm
