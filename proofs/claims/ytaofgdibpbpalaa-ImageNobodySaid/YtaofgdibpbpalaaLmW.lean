/-
  The logical machine, part W: the same meaning of code, in the shape in which it is read by hand: a guard keeps what follows it in one piece.
-/
import Derived.Test.YtaofgdibpbpalaaLmV
namespace Go.Lm

variable {P : Program} {W : World} {keep : Nat → Prop} {ρ : Ren} {g : LHeap} {w : World}

/-- A guarded operation: carried out where the guard is as it wants it, else it yields nothing of use. -/
def gd (c : LV) (want : Bool) (g : LHeap) (op : (LV → LHeap → Prop) → Prop) (K : LV → LHeap → Prop) : Prop :=
  match c with
  | .bool b => if b = want then op K else K undefL g
  | .tuple [] => K undefL g
  | _ => False
@[simp] theorem gd_true (g : LHeap) (op : (LV → LHeap → Prop) → Prop) (K : LV → LHeap → Prop) : gd (.bool true) true g op K = op K := by simp [gd]
@[simp] theorem gd_false (g : LHeap) (op : (LV → LHeap → Prop) → Prop) (K : LV → LHeap → Prop) : gd (.bool false) true g op K = K undefL g := by simp [gd]
@[simp] theorem gd_true' (g : LHeap) (op : (LV → LHeap → Prop) → Prop) (K : LV → LHeap → Prop) : gd (.bool true) false g op K = K undefL g := by simp [gd]
@[simp] theorem gd_false' (g : LHeap) (op : (LV → LHeap → Prop) → Prop) (K : LV → LHeap → Prop) : gd (.bool false) false g op K = op K := by simp [gd]

def step2 (P : Program) (C : CallSem) (ops : Array Oper) (o : Oper) (st : LSt) (K : LSt → Prop) : Prop :=
  match o.guard with
  | none => opL P C st.tm o st.g fun v g => K ⟨putL st.tm o.dst v, g⟩
  | some (j, want) =>
    match (ops[j]?).bind (·.dst) with
    | none => False
    | some d => gd (st.tm d) want st.g (fun K => opL P C st.tm o st.g K) fun v g => K ⟨putL st.tm o.dst v, g⟩
theorem step2_sound {C : CallSem} {ops : Array Oper} {o : Oper} {st : LSt} {K : LSt → Prop} (h : step2 P C ops o st K) : stepL P C ops o st K := by
  unfold step2 at h
  unfold stepL
  split at h
  · rename_i hg; simp only [hg]; exact h
  · rename_i j want hg
    simp only [hg]
    split at h
    · exact h.elim
    · rename_i d hd
      simp only [hd]
      unfold gd at h
      split at h
      · rename_i b hb
        have hp : putL st.tm (some d) (.bool b) = st.tm := putL_same hb
        cases b with
        | true => cases want <;> simp_all
        | false => cases want <;> simp_all
      · rename_i hb
        simp only [hb]
        exact h
      · exact h.elim
def run2 (P : Program) (C : CallSem) (ops : Array Oper) : List Oper → LSt → (LSt → Prop) → Prop
  | [], st, K => K st
  | o :: rest, st, K => step2 P C ops o st fun st' => run2 P C ops rest st' K
theorem run2_sound {C : CallSem} (hC : Mono C) {ops : Array Oper} {K : LSt → Prop} : ∀ (l : List Oper) (st : LSt), run2 P C ops l st K → runL P C ops l st K
  | [], _, h => h
  | _ :: rest, _, h => stepL_mono hC (fun st' h' => run2_sound hC rest st' h') (step2_sound h)

/-- A guarded light operation. -/
def gdV (c : LV) (want : Bool) (x : Option LV) (K : LV → Prop) : Prop :=
  match c with
  | .bool b => if b = want then vK x K else K undefL
  | .tuple [] => K undefL
  | _ => False
@[simp] theorem gdV_true (x : Option LV) (K : LV → Prop) : gdV (.bool true) true x K = vK x K := by simp [gdV]
@[simp] theorem gdV_false (x : Option LV) (K : LV → Prop) : gdV (.bool false) true x K = K undefL := by simp [gdV]
@[simp] theorem gdV_true' (x : Option LV) (K : LV → Prop) : gdV (.bool true) false x K = K undefL := by simp [gdV]
@[simp] theorem gdV_false' (x : Option LV) (K : LV → Prop) : gdV (.bool false) false x K = vK x K := by simp [gdV]
/-- A guarded read: held where it was carried out. -/
def gdD (c : LV) (want : Bool) (x : Option LV) (K : LV → Prop) (N : Prop) : Prop :=
  match c with
  | .bool b => if b = want then vK x K else N
  | .tuple [] => N
  | _ => False
@[simp] theorem gdD_true (x : Option LV) (K : LV → Prop) (N : Prop) : gdD (.bool true) true x K N = vK x K := by simp [gdD]
@[simp] theorem gdD_false (x : Option LV) (K : LV → Prop) (N : Prop) : gdD (.bool false) true x K N = N := by simp [gdD]
@[simp] theorem gdD_true' (x : Option LV) (K : LV → Prop) (N : Prop) : gdD (.bool true) false x K N = N := by simp [gdD]
@[simp] theorem gdD_false' (x : Option LV) (K : LV → Prop) (N : Prop) : gdD (.bool false) false x K N = vK x K := by simp [gdD]
/-- Is there an operation that may come before i or behind it and that is not light? -/
def needsH (P : Program) (ops : Array Oper) (ms : List Nat) (i : Nat) : Bool := (List.range ops.size).any fun j => conc ms i j && !(lightAt P ops j)
/-- Behind operation j: the reads that are held and may still be carried out read the same. -/
def held2 (P : Program) (ms : List Nat) (j : Nat) (g : LHeap) : List Held → Prop → Prop
  | [], K => K
  | h :: hs, K =>
    match conc ms h.i j with
    | true => lightV P h.tm h.o.op g = some h.v ∧ held2 P ms j g hs K
    | false => held2 P ms j g hs K
theorem held2_spec {ms : List Nat} {j : Nat} {K : Prop} : ∀ {D : List Held}, held2 P ms j g D K → heldOK P ms j g D ∧ K
  | [], h => ⟨trivial, h⟩
  | d :: D, h => by
    unfold held2 at h
    split at h
    · obtain ⟨h1, h2⟩ := h
      have := held2_spec h2
      exact ⟨⟨fun _ => h1, this.1⟩, this.2⟩
    · rename_i hc
      have := held2_spec h
      exact ⟨⟨fun e => (by rw [hc] at e; cases e), this.1⟩, this.2⟩
/-- What is held here stands for what is held there. -/
def Cov (P : Program) (ops : Array Oper) (ms : List Nat) (D2 D : List Held) : Prop := ∀ j g, j < ops.size → lightAt P ops j = false → heldOK P ms j g D2 → heldOK P ms j g D

def light2 (P : Program) (ops : Array Oper) (ms : List Nat) (i : Nat) (o : Oper) (reads : Bool) (D : List Held) (st : LSt) (K : List Held → LSt → Prop) : Prop :=
  match o.guard with
  | none => vK (lightV P st.tm o.op st.g) fun v => K (match reads && needsH P ops ms i with | true => ⟨i, o, st.tm, v⟩ :: D | false => D) ⟨putL st.tm o.dst v, st.g⟩
  | some (j, want) =>
    match reads && needsH P ops ms i, (ops[j]?).bind (·.dst) with
    | false, some d => gdV (st.tm d) want (lightV P st.tm o.op st.g) fun v => K D ⟨putL st.tm o.dst v, st.g⟩
    | true, some d => gdD (st.tm d) want (lightV P st.tm o.op st.g) (fun v => K (⟨i, o, st.tm, v⟩ :: D) ⟨putL st.tm o.dst v, st.g⟩) (K D ⟨putL st.tm o.dst undefL, st.g⟩)
    | _, none => False
theorem cov_held {ops : Array Oper} {ms : List Nat} {D2 D : List Held} (h : Held) (hc : Cov P ops ms D2 D) (reads : Bool) : Cov P ops ms (match reads && needsH P ops ms h.i with | true => h :: D2 | false => D2) (if reads then h :: D else D) := by
  intro j g hj hl hh
  cases reads with
  | false => exact hc j g hj hl hh
  | true =>
    simp only [Bool.true_and] at hh
    simp only [if_true]
    split at hh
    · exact ⟨hh.1, hc j g hj hl hh.2⟩
    · rename_i hn
      refine ⟨fun e => ?_, hc j g hj hl hh⟩
      exfalso
      have : needsH P ops ms h.i = true := List.any_eq_true.2 ⟨j, List.mem_range.2 hj, by rw [e, hl]; rfl⟩
      rw [hn] at this
      cases this
theorem light2_sound {ops : Array Oper} {ms : List Nat} {i : Nat} {o : Oper} {reads : Bool} {D2 D : List Held} {st : LSt} {K2 K : List Held → LSt → Prop} (hcov : Cov P ops ms D2 D)
    (hK : ∀ D2 D st, Cov P ops ms D2 D → K2 D2 st → K D st) (h : light2 P ops ms i o reads D2 st K2) : lightStep P ops i o reads D st K := by
  unfold light2 at h
  unfold lightStep
  split at h
  · rename_i hg
    simp only [hg]
    exact vK_mono (fun v hv => hK _ _ _ (cov_held ⟨i, o, st.tm, v⟩ hcov reads) hv) h
  · rename_i j want hg
    simp only [hg]
    have held : ∀ (d : Nat) (b : Bool), st.tm d = .bool b → b = want → (vK (lightV P st.tm o.op st.g) fun v => K (if reads then ⟨i, o, st.tm, v⟩ :: D else D) ⟨putL st.tm o.dst v, st.g⟩) →
        (match st.tm d with
        | .bool true => if want then vK (lightV P (putL st.tm (some d) (.bool true)) o.op st.g) fun v => K (if reads then ⟨i, o, putL st.tm (some d) (.bool true), v⟩ :: D else D) ⟨putL (putL st.tm (some d) (.bool true)) o.dst v, st.g⟩
          else K D ⟨putL (putL st.tm (some d) (.bool true)) o.dst undefL, st.g⟩
        | .bool false => if want then K D ⟨putL (putL st.tm (some d) (.bool false)) o.dst undefL, st.g⟩
          else vK (lightV P (putL st.tm (some d) (.bool false)) o.op st.g) fun v => K (if reads then ⟨i, o, putL st.tm (some d) (.bool false), v⟩ :: D else D) ⟨putL (putL st.tm (some d) (.bool false)) o.dst v, st.g⟩
        | .tuple [] => K D ⟨putL st.tm o.dst undefL, st.g⟩
        | _ => False) := by
      intro d b hb hw hk
      have hp : putL st.tm (some d) (.bool b) = st.tm := putL_same hb
      subst hw
      rw [hb]
      cases b <;> simp only [hp] <;> simpa using hk
    have skip : ∀ (d : Nat) (b : Bool), st.tm d = .bool b → b ≠ want → K D ⟨putL st.tm o.dst undefL, st.g⟩ →
        (match st.tm d with
        | .bool true => if want then vK (lightV P (putL st.tm (some d) (.bool true)) o.op st.g) fun v => K (if reads then ⟨i, o, putL st.tm (some d) (.bool true), v⟩ :: D else D) ⟨putL (putL st.tm (some d) (.bool true)) o.dst v, st.g⟩
          else K D ⟨putL (putL st.tm (some d) (.bool true)) o.dst undefL, st.g⟩
        | .bool false => if want then K D ⟨putL (putL st.tm (some d) (.bool false)) o.dst undefL, st.g⟩
          else vK (lightV P (putL st.tm (some d) (.bool false)) o.op st.g) fun v => K (if reads then ⟨i, o, putL st.tm (some d) (.bool false), v⟩ :: D else D) ⟨putL (putL st.tm (some d) (.bool false)) o.dst v, st.g⟩
        | .tuple [] => K D ⟨putL st.tm o.dst undefL, st.g⟩
        | _ => False) := by
      intro d b hb hw hk
      have hp : putL st.tm (some d) (.bool b) = st.tm := putL_same hb
      rw [hb]
      cases b <;> cases want <;> simp only [hp] <;> first | exact (hw rfl).elim | simpa using hk
    split at h
    · rename_i d hr hd
      simp only [hd]
      unfold gdV at h
      split at h
      · rename_i b hb
        split at h
        · rename_i hw
          refine held d b hb hw (vK_mono (fun v hv => hK _ _ _ ?_ hv) h)
          have := cov_held ⟨i, o, st.tm, v⟩ hcov reads
          rw [hr] at this
          exact this
        · rename_i hw
          exact skip d b hb hw (hK _ _ _ hcov h)
      · rename_i hb
        simp only [hb]
        exact hK _ _ _ hcov h
      · exact h.elim
    · rename_i d hr hd
      simp only [hd]
      unfold gdD at h
      split at h
      · rename_i b hb
        split at h
        · rename_i hw
          refine held d b hb hw (vK_mono (fun v hv => hK _ _ _ ?_ hv) h)
          have := cov_held ⟨i, o, st.tm, v⟩ hcov reads
          rw [hr] at this
          exact this
        · rename_i hw
          exact skip d b hb hw (hK _ _ _ hcov h)
      · rename_i hb
        simp only [hb]
        exact hK _ _ _ hcov h
      · exact h.elim
    · exact h.elim

def draw2 (P : Program) (C : CallSem) (ops : Array Oper) (ms : List Nat) : Nat → Array Bool → List Held → LSt → (LSt → Prop) → Prop
  | 0, listed, _, st, K => match Region.ready .any ops listed with
    | [] => K st
    | _ => False
  | n + 1, listed, D, st, K =>
    match Region.ready .any ops listed with
    | [] => K st
    | r :: rs =>
      match pickL1 P ops ms listed (r :: rs) with
      | some (i, o, reads) => light2 P ops ms i o reads D st fun D' st' => draw2 P C ops ms n (listed.setIfInBounds i true) D' st' K
      | none => allL (r :: rs) fun i =>
        match ops[i]? with
        | some o => match kindO P o.op with
          | some _ => False
          | none => step2 P C ops o st fun st' => held2 P ms i st'.g D (draw2 P C ops ms n (listed.setIfInBounds i true) D st' K)
        | none => False
theorem draw2_sound {C : CallSem} (hC : Mono C) {ops : Array Oper} {ms : List Nat} {K : LSt → Prop} : ∀ (n : Nat) (listed : Array Bool) (D2 D : List Held) (st : LSt), Cov P ops ms D2 D → draw2 P C ops ms n listed D2 st K → drawL P C ops ms n listed D st K := by
  intro n
  induction n with
  | zero =>
    intro listed D2 D st _ h
    unfold draw2 at h
    unfold drawL
    split at h
    · rename_i hr; rw [hr]; exact h
    · exact h.elim
  | succ n ih =>
    intro listed D2 D st hcov h
    unfold draw2 at h
    unfold drawL
    split at h
    · rename_i hr; rw [hr]; exact h
    · rename_i r rs hr
      rw [hr]
      simp only []
      split at h
      · rename_i i o reads hp
        rw [hp]
        exact light2_sound hcov (fun D2' D' st' hc h' => ih _ _ _ _ hc h') h
      · rename_i hp
        rw [hp]
        refine allL_mono (fun i hi => ?_) _ h
        split at hi
        · rename_i o ho
          simp only [ho]
          split at hi
          · exact hi.elim
          · rename_i hk
            simp only [hk]
            refine stepL_mono hC (fun st' h' => ?_) (step2_sound hi)
            have h2 := held2_spec h'
            exact ⟨hcov i st'.g (Array.getElem?_eq_some_iff.1 ho).1 (by simp [lightAt, ho, hk]) h2.1, ih _ _ _ _ hcov h2.2⟩
        · exact hi.elim

/-- A value over a heap, named. -/
def mkK (v : LV) (h : LHeap) (K : LV → LHeap → Prop) : Prop := K v h
@[simp] theorem mkK_eq (v : LV) (h : LHeap) (K : LV → LHeap → Prop) : mkK v h K = K v h := rfl
/-- Two ways on. -/
def ifB (c : LV) (A B : Prop) : Prop :=
  match c with
  | .bool true => A
  | .bool false => B
  | _ => False
@[simp] theorem ifB_true (A B : Prop) : ifB (.bool true) A B = A := rfl
@[simp] theorem ifB_false (A B : Prop) : ifB (.bool false) A B = B := rfl
def code2 (P : Program) (C : CallSem) : Code → LSt → (LEx → LSt → Prop) → Prop
  | .skip, st, K => K .normal st
  | .region _ ops true, st, K => draw2 P C ops (masks ops.toList []) ops.size (Array.replicate ops.size false) [] st (K .normal)
  | .region _ ops false, st, K => run2 P C ops ops.toList st (K .normal)
  | .seq a b, st, K => code2 P C a st (thenL (fun st' => code2 P C b st' K) K)
  | .cond c a b, st, K => ifB (evL st.tm c) (code2 P C a st K) (code2 P C b st K)
  | .block id b, st, K => code2 P C b st (exitL id K)
  | .loop b, st, K => loopL (code2 P C b) st K
  | .exit id, st, K => K (.exit id) st
  | .ret, st, K => K .ret st
  | .scope b, st, K => code2 P C b st K
  | .label _, st, K => K .normal st
  | _, _, _ => False
theorem code2_sound {C : CallSem} (hC : Mono C) : ∀ (c : Code) (st : LSt) (K : LEx → LSt → Prop), code2 P C c st K → codeL P C c st K := by
  intro c
  induction c with
  | region id ops d =>
    intro st K h
    cases d with
    | true => exact draw2_sound hC _ _ [] [] _ (fun _ _ _ _ h => h) h
    | false => exact run2_sound hC _ _ h
  | seq a b iha ihb =>
    intro st K h
    refine codeL_mono hC a st _ _ (fun e st' h' => ?_) (iha st _ h)
    cases e with
    | normal => exact ihb st' K h'
    | _ => exact h'
  | cond c a b iha ihb =>
    intro st K h
    simp only [code2] at h
    simp only [codeL]
    unfold ifB at h
    split at h
    · rename_i hc; simp only [hc]; exact iha st K h
    · rename_i hc; simp only [hc]; exact ihb st K h
    · exact h.elim
  | block id b ih => intro st K h; exact ih st _ h
  | loop b ih =>
    intro st K h
    obtain ⟨I, μ, h1, h2⟩ := h
    exact ⟨I, μ, h1, fun s hs => ih s _ (h2 s hs)⟩
  | skip => intro st K h; exact h
  | exit id => intro st K h; exact h
  | ret => intro st K h; exact h
  | scope b ih => intro st K h; exact ih st _ h
  | label l => intro st K h; exact h
  | _ => intro st K h; exact h.elim

/-- A function's contract, out of what its body does. -/
theorem ok_of_code2 {f : FuncId} {fn : Func} {c : Code} {args : List LV} {K : LV → LHeap → Prop} (hm : P.follows .mixedOrders = true) (hf : P.funcs[f]? = some fn) (hb : fn.body = some c) (hfine : fineF P f = true) (hlen : args.length ≤ fn.ntmps)
    (hK : code2 P (Ok P) c ⟨startL args, g⟩ (endL P fn K)) : Ok P f args g K := by
  unfold fineF at hfine
  simp only [hf, hb, Bool.and_eq_true, Bool.not_eq_true'] at hfine
  exact ok_of_code hm hf hb hfine.2 hfine.1 hlen (code2_sound ok_mono c _ _ hK)

/-! ### A body's nodes, by number of function and path -/
def bodyC (P : Program) (f : FuncId) : Code :=
  match P.funcs[f]? with
  | some fn => match fn.body with
    | some c => c
    | none => .skip
  | none => .skip
def subC : List Nat → Code → Code
  | [], c => c
  | i :: is, c =>
    match c with
    | .seq a b => subC is (match i with | 0 => a | _ => b)
    | .cond _ a b => subC is (match i with | 0 => a | _ => b)
    | .block _ b => subC is b
    | .loop b => subC is b
    | c => c
theorem body_of {f : FuncId} {fn : Func} (hf : P.funcs[f]? = some fn) (hb : fn.body.isSome = true) : fn.body = some (bodyC P f) := by
  unfold bodyC
  simp only [hf]
  cases h : fn.body with
  | none => rw [h] at hb; cases hb
  | some c => rfl
/-- A function's contract, out of what its body does. -/
theorem ok_fn {f : FuncId} {fn : Func} {args : List LV} {K : LV → LHeap → Prop} (hm : P.follows .mixedOrders = true) (hf : P.funcs[f]? = some fn) (hfine : fineF P f = true) (hlen : args.length ≤ fn.ntmps)
    (hK : code2 P (Ok P) (bodyC P f) ⟨startL args, g⟩ (endL P fn K)) : Ok P f args g K := by
  refine ok_of_code2 hm hf (body_of hf ?_) hfine hlen hK
  unfold fineF at hfine
  simp only [hf] at hfine
  cases h : fn.body with
  | none => rw [h] at hfine; cases hfine
  | some c => rfl

end Go.Lm
