/-
  The logical machine: a deep reading of a program over numbered objects, proved sound once; parts mX to m0.
-/
import Derived.Test.YtfbagndfifibiaaLm3x
import Derived.IntWalk
set_option linter.all false
/-
  The logical machine, part X: what a call does is computed as a statement: questions about values that are not known are put, and answered beforehand; calls whose answer is known are not entered.
-/
namespace Go.Lm

variable {P : Program} {W : World} {keep : Nat → Prop} {ρ : Ren} {g : LHeap} {w : World}

/-- What the one may, the other may. -/
def Le (C C' : CallSem) : Prop := ∀ f args g (K K' : LV → LHeap → Prop), (∀ v g, K v g → K' v g) → C f args g K → C' f args g K'
theorem opL_le {C C' : CallSem} (hC : Le C C') {tm : Nat → LV} {o : Oper} {K K' : LV → LHeap → Prop} (hk : ∀ v g, K v g → K' v g) (h : opL P C tm o g K) : opL P C' tm o g K' := by
  have v1 : ∀ {x : Option LV}, (vK x fun v => K v g) → vK x fun v => K' v g := fun {x} h => by cases x with | none => exact h | some v => exact hk _ _ h
  have g1 : ∀ {x : Option LHeap}, (gK x fun g => K undefL g) → gK x fun g => K' undefL g := fun {x} h => by cases x with | none => exact h | some v => exact hk _ _ h
  have o1 : ∀ {x : Option (LV × LHeap)}, oK x K → oK x K' := fun {x} h => by cases x with | none => exact h | some v => exact hk _ _ h
  unfold opL at h ⊢
  split at h
  all_goals rename_i heq
  all_goals (try simp only [heq])
  any_goals first
    | exact v1 h
    | exact g1 h
    | exact o1 h
    | exact hk _ _ h
    | (cases h; done)
  · cases hz : zeroL P _ with
    | none => rw [hz] at h; exact h
    | some z => rw [hz] at h; exact o1 h
  · unfold nextMapL at h ⊢
    split at h
    · split at h
      · rename_i hr; (try simp only [hr]); exact hk _ _ h
      · rename_i hr
        (try simp only [hr])
        split at h
        · rename_i hm; (try simp only [hm]); exact ⟨h.1, fun e => hk _ _ (h.2.1 e), fun e he hs => hk _ _ (h.2.2 e he hs)⟩
        · exact h.elim
      · exact h.elim
    · exact h.elim
  · split at h
    · rename_i hc; (try simp only [hc]); exact o1 h
    · rename_i hc
      (try simp only [hc])
      unfold callV at h ⊢
      split at h
      · rename_i hf
        (try simp only [hf])
        split at h
        · rename_i hx; (try simp only [hx]); exact hk _ _ h
        · rename_i hx; (try simp only [hx]); exact hC _ _ _ _ _ hk h
      · rename_i hf
        (try simp only [hf])
        split at h
        · rename_i hm; (try simp only [hm]); exact hC _ _ _ _ _ hk h
        · exact h.elim
      · rename_i hf; (try simp only [hf]); exact h.mono hk
      · exact h.elim
    · rename_i hc
      (try simp only [hc])
      split at h
      · rename_i hr
        (try simp only [hr])
        split at h
        · rename_i hm; (try simp only [hm]); exact hC _ _ _ _ _ hk h
        · exact h.elim
      · exact h.elim
theorem stepL_le {C C' : CallSem} (hC : Le C C') {ops : Array Oper} {o : Oper} {st : LSt} {K K' : LSt → Prop} (hk : ∀ st, K st → K' st) (h : stepL P C ops o st K) : stepL P C' ops o st K' := by
  unfold stepL at h ⊢
  split at h
  · rename_i hg; (try simp only [hg]); exact opL_le hC (fun _ _ => hk _) h
  · rename_i j want hg
    (try simp only [hg])
    split at h
    · exact h.elim
    · rename_i d hd
      (try simp only [hd])
      split at h
      · rename_i hb
        (try simp only [hb])
        cases want with
        | true => simp only [if_true] at h ⊢; exact opL_le hC (fun _ _ => hk _) h
        | false => simp only [Bool.false_eq_true, if_false] at h ⊢; exact hk _ h
      · rename_i hb
        (try simp only [hb])
        cases want with
        | true => simp only [if_true] at h ⊢; exact hk _ h
        | false => simp only [Bool.false_eq_true, if_false] at h ⊢; exact opL_le hC (fun _ _ => hk _) h
      · rename_i hb
        (try simp only [hb])
        exact hk _ h
      · exact h.elim

theorem runL_le {C C' : CallSem} (hC : Le C C') {ops : Array Oper} {K K' : LSt → Prop} (hk : ∀ st, K st → K' st) : ∀ (l : List Oper) (st : LSt), runL P C ops l st K → runL P C' ops l st K'
  | [], _, h => hk _ h
  | _ :: rest, _, h => stepL_le hC (fun st' h' => runL_le hC hk rest st' h') h
theorem drawL_le {C C' : CallSem} (hC : Le C C') {ops : Array Oper} {ms : List Nat} {K K' : LSt → Prop} (hk : ∀ st, K st → K' st) : ∀ (n : Nat) (listed : Array Bool) (D : List Held) (st : LSt), drawL P C ops ms n listed D st K → drawL P C' ops ms n listed D st K' := by
  intro n
  induction n with
  | zero =>
    intro listed D st h
    unfold drawL at h ⊢
    split at h
    · rename_i hr; (try rw [hr]); exact hk _ h
    · exact h.elim
  | succ n ih =>
    intro listed D st h
    unfold drawL at h ⊢
    split at h
    · rename_i hr; (try rw [hr]); exact hk _ h
    · rename_i r rs hr
      (try rw [hr])
      (try simp only [])
      split at h
      · rename_i i o reads hp
        (try rw [hp])
        exact lightStep_mono (fun D' st' h' => ih _ _ _ h') h
      · rename_i hp
        (try rw [hp])
        refine allL_mono (fun i hi => ?_) _ h
        split at hi
        · rename_i o ho
          (try simp only [ho])
          split at hi
          · exact hi.elim
          · rename_i hk'
            (try simp only [hk'])
            exact stepL_le hC (fun st' h' => ⟨h'.1, ih _ _ _ h'.2⟩) hi
        · exact hi.elim

/-- A call that yields r, and leaves the heap. -/
def Pure (P : Program) (f : FuncId) (args : List LV) (r : LV) : Prop := ∀ g, Ok P f args g fun v g' => v = r ∧ g' = g
theorem Pure.of {f : FuncId} {args : List LV} {r : LV} (ha : flats args = true) (hr : r.flat = true) (h : Ok P f args (emp 0) fun v _ => v = r) : Pure P f args r := fun _ =>
  (Ok.alone h ha fun v _ hv => by rw [hv]; exact hr).mono fun _ _ ⟨h1, _, h2⟩ => ⟨h2, h1⟩
theorem Pure.to {f : FuncId} {args : List LV} {r : LV} {K : LV → LHeap → Prop} (h : Pure P f args r) (hK : K r g) : Ok P f args g K :=
  (h g).mono fun v g' ⟨h1, h2⟩ => by rw [h1, h2]; exact hK

/-- None of these keys is it. -/
def missP (P : Program) (t : TypeId) (k : LV) : List (LV × LV × Nat) → Prop → Prop
  | [], K => K
  | e :: es, K => eqTy P 60 t k e.1 = some false ∧ missP P t k es K
theorem missP_spec {t : TypeId} {k : LV} {K : Prop} : ∀ {es : List (LV × LV × Nat)} {i : Nat}, missP P t k es K → findL P t k es i = some none ∧ K
  | [], _, h => ⟨rfl, h⟩
  | e :: es, i, h => by
    obtain ⟨h1, h2⟩ := missP_spec (i := i + 1) h.2
    refine ⟨?_, h2⟩
    unfold findL
    rw [h.1]
    exact h1
def entriesL (x : LV) (g : LHeap) : Option (List (LV × LV × Nat)) :=
  match x with
  | .nilm => some []
  | .map a => match g.get a with
    | some (.map es _ _) => some es
    | _ => none
  | _ => none
def missQ (P : Program) (t : TypeId) (x k : LV) (ok : Bool) (g : LHeap) (K : LV → Prop) : Prop :=
  match mapShape P t with
  | some (kt, et) =>
    match checkKeyL P 60 kt k with
    | true =>
      match entriesL x g, zeroL P et with
      | some es, some z => missP P kt k es (K (if ok then .tuple [z, .bool false] else z))
      | _, _ => False
    | false => False
  | none => False
theorem missQ_sound {t : TypeId} {x k : LV} {ok : Bool} {K : LV → Prop} (h : missQ P t x k ok g K) : vK (lookupL P t x k ok g) K := by
  unfold missQ at h
  split at h
  · rename_i kt et hs
    split at h
    · rename_i hc
      split at h
      · rename_i es z he hz
        obtain ⟨h1, h2⟩ := missP_spec (i := 0) h
        have : lookupL P t x k ok g = some (if ok then .tuple [z, .bool false] else z) := by
          unfold entriesL at he
          unfold lookupL
          simp only [hs, hc, if_true]
          split at he
          · cases he; simp only [h1, hz]
          · rename_i a
            split at he
            · rename_i es' c own hg; cases he; simp only [hg, h1, hz]
            · cases he
          · cases he
        rw [this]
        exact h2
      · exact h.elim
    · exact h.elim
  · exact h.elim

def opQ (P : Program) (C : CallSem) (A : Option LV) (tm : Nat → LV) (o : Oper) (g : LHeap) (K : LV → LHeap → Prop) : Prop :=
  match A with
  | none => opL P C tm o g K
  | some v =>
    match o.op with
    | .lookup t x k ok => missQ P t (evL tm x) (evL tm k) ok g fun v => K v g
    | .binOp op t x y _ => binL P op t (isConstO x || isConstO y) (evL tm x) (evL tm y) = some v ∧ K v g
    | .unOp op _ x => unL op (evL tm x) = some v ∧ K v g
    | _ => False
theorem opQ_sound {C : CallSem} {A : Option LV} {tm : Nat → LV} {o : Oper} {K : LV → LHeap → Prop} (h : opQ P C A tm o g K) : opL P C tm o g K := by
  unfold opQ at h
  split at h
  · exact h
  · split at h
    · rename_i ho; unfold opL; simp only [ho]; exact missQ_sound h
    · rename_i ho; unfold opL; simp only [ho, h.1]; exact h.2
    · rename_i ho; unfold opL; simp only [ho, h.1]; exact h.2
    · exact h.elim
def ansO (O : List (Nat × LV)) (dst : Option Nat) : Option LV :=
  match dst with
  | some d => match O.find? fun e => Nat.beq e.1 d with
    | some e => some e.2
    | none => none
  | none => none
def stepQ (P : Program) (C : CallSem) (O : List (Nat × LV)) (ops : Array Oper) (o : Oper) (st : LSt) (K : LSt → Prop) : Prop :=
  match o.guard with
  | none => opQ P C (ansO O o.dst) st.tm o st.g fun v g => K ⟨putL st.tm o.dst v, g⟩
  | some (j, want) =>
    match (ops[j]?).bind (·.dst) with
    | none => False
    | some d => gd (st.tm d) want st.g (fun K => opQ P C (ansO O o.dst) st.tm o st.g K) fun v g => K ⟨putL st.tm o.dst v, g⟩
theorem stepQ_sound {C : CallSem} {O : List (Nat × LV)} {ops : Array Oper} {o : Oper} {st : LSt} {K : LSt → Prop} (h : stepQ P C O ops o st K) : stepL P C ops o st K := by
  refine step2_sound ?_
  unfold stepQ at h
  unfold step2
  split at h
  · rename_i hg; simp only [hg]; exact opQ_sound h
  · rename_i j want hg
    simp only [hg]
    split at h
    · exact h.elim
    · rename_i d hd
      simp only [hd]
      unfold gd at h ⊢
      split at h
      · rename_i b hb
        split at h
        · rename_i hw; rw [if_pos hw]; exact opQ_sound h
        · rename_i hw; rw [if_neg hw]; exact h
      · exact h
      · exact h.elim
def runQ (P : Program) (C : CallSem) (O : List (Nat × LV)) (ops : Array Oper) : List Oper → LSt → (LSt → Prop) → Prop
  | [], st, K => K st
  | o :: rest, st, K => stepQ P C O ops o st fun st' => runQ P C O ops rest st' K
theorem runQ_sound {C C' : CallSem} (hC : Le C C') {O : List (Nat × LV)} {ops : Array Oper} {K : LSt → Prop} : ∀ (l : List Oper) (st : LSt), runQ P C O ops l st K → runL P C' ops l st K
  | [], _, h => h
  | _ :: rest, _, h => stepL_le hC (fun st' h' => runQ_sound hC rest st' h') (stepQ_sound h)
/-- All of them; one alone stands by itself. -/
def allQ : List Nat → (Nat → Prop) → Prop
  | [], _ => True
  | [i], f => f i
  | i :: is, f => f i ∧ allQ is f
theorem allQ_all {f : Nat → Prop} : ∀ {l : List Nat}, allQ l f → allL l f
  | [], _ => trivial
  | [_], h => ⟨h, trivial⟩
  | _ :: _ :: _, h => ⟨h.1, allQ_all h.2⟩
/-- Is it a reference? -/
def isRef : LV → Bool
  | .ptr _ _ | .slice _ _ _ _ | .tail _ _ _ _ _ | .map _ | .nilp | .nils | .nilm => true
  | _ => false
/-- As held2; but references are compared at once. -/
def heldQ (P : Program) (ms : List Nat) (j : Nat) (g : LHeap) : List Held → Prop → Prop
  | [], K => K
  | h :: hs, K =>
    match conc ms h.i j with
    | true =>
      match isRef h.v with
      | true => match lightV P h.tm h.o.op g with
        | some v => match v.eqb h.v with
          | true => heldQ P ms j g hs K
          | false => False
        | none => False
      | false => lightV P h.tm h.o.op g = some h.v ∧ heldQ P ms j g hs K
    | false => heldQ P ms j g hs K
theorem heldQ_spec {ms : List Nat} {j : Nat} {K : Prop} : ∀ {D : List Held}, heldQ P ms j g D K → heldOK P ms j g D ∧ K
  | [], h => ⟨trivial, h⟩
  | d :: D, h => by
    unfold heldQ at h
    split at h
    · split at h
      · split at h
        · rename_i v hv
          split at h
          · rename_i he
            have := heldQ_spec h
            exact ⟨⟨fun _ => by rw [hv, LV.eqb_eq _ _ he], this.1⟩, this.2⟩
          · exact h.elim
        · exact h.elim
      · obtain ⟨h1, h2⟩ := h
        have := heldQ_spec h2
        exact ⟨⟨fun _ => h1, this.1⟩, this.2⟩
    · rename_i hc
      have := heldQ_spec h
      exact ⟨⟨fun e => (by rw [hc] at e; cases e), this.1⟩, this.2⟩
def drawQ (P : Program) (C : CallSem) (ops : Array Oper) (ms : List Nat) : Nat → Array Bool → List Held → LSt → (LSt → Prop) → Prop
  | 0, listed, _, st, K => match Region.ready .any ops listed with
    | [] => K st
    | _ => False
  | n + 1, listed, D, st, K =>
    match Region.ready .any ops listed with
    | [] => K st
    | r :: rs =>
      match pickL1 P ops ms listed (r :: rs) with
      | some (i, o, reads) => light2 P ops ms i o reads D st fun D' st' => drawQ P C ops ms n (listed.setIfInBounds i true) D' st' K
      | none => allQ (r :: rs) fun i =>
        match ops[i]? with
        | some o => match kindO P o.op with
          | some _ => False
          | none => step2 P C ops o st fun st' => heldQ P ms i st'.g D (drawQ P C ops ms n (listed.setIfInBounds i true) D st' K)
        | none => False
theorem drawQ_sound {C C' : CallSem} (hC : Le C C') {ops : Array Oper} {ms : List Nat} {K : LSt → Prop} : ∀ (n : Nat) (listed : Array Bool) (D2 D : List Held) (st : LSt), Cov P ops ms D2 D → drawQ P C ops ms n listed D2 st K → drawL P C' ops ms n listed D st K := by
  intro n
  induction n with
  | zero =>
    intro listed D2 D st _ h
    unfold drawQ at h
    unfold drawL
    split at h
    · rename_i hr; rw [hr]; exact h
    · exact h.elim
  | succ n ih =>
    intro listed D2 D st hcov h
    unfold drawQ at h
    unfold drawL
    split at h
    · rename_i hr; rw [hr]; exact h
    · rename_i r rs hr
      rw [hr]
      simp only []
      split at h
      · rename_i i o reads hp
        rw [hp]
        exact light2_sound hcov (fun D2' D' st' hc h' => ih _ _ _ _ hc h') h
      · rename_i hp
        rw [hp]
        refine allL_mono (fun i hi => ?_) _ (allQ_all h)
        split at hi
        · rename_i o ho
          simp only [ho]
          split at hi
          · exact hi.elim
          · rename_i hk
            simp only [hk]
            refine stepL_le hC (fun st' h' => ?_) (step2_sound hi)
            have h2 := heldQ_spec h'
            exact ⟨hcov i st'.g (Array.getElem?_eq_some_iff.1 ho).1 (by simp [lightAt, ho, hk]) h2.1, ih _ _ _ _ hcov h2.2⟩
        · exact hi.elim

def codeQ (P : Program) (C : CallSem) (O : List (Nat × LV)) : Nat → Code → LSt → (LEx → LSt → Prop) → Prop
  | 0, _, _, _ => False
  | n + 1, c, st, K =>
    match c with
    | .skip => K .normal st
    | .region _ ops true => drawQ P C ops (masks ops.toList []) ops.size (Array.replicate ops.size false) [] st (K .normal)
    | .region _ ops false => runQ P C O ops ops.toList st (K .normal)
    | .seq a b => codeQ P C O n a st (thenL (fun st' => codeQ P C O n b st' K) K)
    | .cond c a b => ifB (evL st.tm c) (codeQ P C O n a st K) (codeQ P C O n b st K)
    | .block id b => codeQ P C O n b st (exitL id K)
    | .loop b => codeQ P C O n b st (thenL (fun st' => codeQ P C O n (.loop b) st' K) K)
    | .exit id => K (.exit id) st
    | .ret => K .ret st
    | .scope b => codeQ P C O n b st K
    | .label _ => K .normal st
    | .rangeFunc f ps a b => match evL st.tm f with
      | .func (.func fid) first caps => C fid (first ++ [.yield st.g.next] ++ caps) (st.g.alloc (.loop ⟨.ready, none, st.tm, ps, a, b⟩)) fun _ g' => leaveL st.g.next st.tm g' K
      | _ => False
    | _ => False
theorem codeQ_sound {C C' : CallSem} (hC : Le C C') (hC' : Mono C') {O : List (Nat × LV)} : ∀ (c : Code) (n : Nat) (st : LSt) (K : LEx → LSt → Prop), codeQ P C O n c st K → codeL P C' c st K := by
  intro c
  induction c with
  | seq a b iha ihb =>
    intro n st K h
    cases n with
    | zero => exact h.elim
    | succ n =>
      refine codeL_mono hC' a st _ _ (fun e st' h' => ?_) (iha n st _ h)
      cases e with
      | normal => exact ihb n st' K h'
      | _ => exact h'
  | cond c a b iha ihb =>
    intro n st K h
    cases n with
    | zero => exact h.elim
    | succ n =>
      simp only [codeQ] at h
      simp only [codeL]
      unfold ifB at h
      split at h
      · rename_i hc; simp only [hc]; exact iha n st K h
      · rename_i hc; simp only [hc]; exact ihb n st K h
      · exact h.elim
  | block id b ih =>
    intro n st K h
    cases n with
    | zero => exact h.elim
    | succ n => exact ih n st _ h
  | loop b ih =>
    intro n st K h
    let T : LSt → Nat → Prop := fun s k => codeQ P C O k (.loop b) s K
    have hmin : ∀ s k, T s k → ∃ m, T s m ∧ ∀ j, T s j → m ≤ j := by
      intro s k
      induction k using Nat.strongRecOn with
      | _ k ihk =>
        intro hk
        by_cases hx : ∃ j, j < k ∧ T s j
        · obtain ⟨j, hj, hT⟩ := hx; exact ihk j hj hT
        · exact ⟨k, hk, fun j hj => Nat.le_of_not_lt fun hlt => hx ⟨j, hlt, hj⟩⟩
    refine ⟨fun s => ∃ k, T s k, fun s => open Classical in if hs : ∃ m, T s m ∧ ∀ j, T s j → m ≤ j then Classical.choose hs else 0, ⟨n, h⟩, ?_⟩
    rintro s ⟨k, hk⟩
    have hs := hmin s k hk
    have hch := Classical.choose_spec hs
    generalize hm : Classical.choose hs = m at hch
    cases m with
    | zero => exact hch.1.elim
    | succ m =>
      have h1 := hch.1
      refine codeL_mono hC' b s _ _ (fun e s1 h' => ?_) (ih m s _ h1)
      cases e with
      | normal =>
        have hT1 : T s1 m := h'
        refine ⟨⟨m, hT1⟩, ?_⟩
        have hs1 := hmin s1 m hT1
        simp only []
        rw [dif_pos hs, dif_pos hs1, hm]
        have := (Classical.choose_spec hs1).2 m hT1
        omega
      | _ => exact h'
  | region id ops d =>
    intro n st K h
    cases n with
    | zero => exact h.elim
    | succ n =>
      cases d with
      | true => exact drawQ_sound hC _ _ [] [] _ (fun _ _ _ _ h => h) h
      | false => exact runQ_sound hC _ _ h
  | skip => intro n st K h; cases n with | zero => exact h.elim | succ n => exact h
  | exit id => intro n st K h; cases n with | zero => exact h.elim | succ n => exact h
  | ret => intro n st K h; cases n with | zero => exact h.elim | succ n => exact h
  | scope b ih => intro n st K h; cases n with | zero => exact h.elim | succ n => exact ih n st _ h
  | label l => intro n st K h; cases n with | zero => exact h.elim | succ n => exact h
  | rangeFunc f ps a b _ _ =>
    intro n st K h
    cases n with
    | zero => exact h.elim
    | succ n =>
      simp only [codeQ] at h
      simp only [codeL]
      split at h
      · rename_i hc; simp only [hc]; exact hC _ _ _ _ _ (fun _ _ h' => h') h
      · exact h.elim
  | _ => intro n st K h; cases n <;> exact h.elim

/-- Questions to a function's operations, answered beforehand; by the function, and the slot that is written. -/
abbrev Answers := List (Nat × List (Nat × LV))
def ansF (O : Answers) (f : FuncId) : List (Nat × LV) :=
  match O.find? fun e => Nat.beq e.1 f with
  | some e => e.2
  | none => []
/-- Calls whose answer is known. -/
abbrev Known := List (Nat × (List LV → LV))
def callQ (P : Program) (l : List FuncId) (B : Known) (O : Answers) : Nat → CallSem
  | 0, _, _, _, _ => False
  | n + 1, f, args, g, K =>
    match B.find? fun e => Nat.beq e.1 f with
    | some e => Pure P f args (e.2 args) ∧ K (e.2 args) g
    | none =>
      match P.funcs[f]? with
      | some fn => match fn.body with
        | some c => match Nat.ble args.length fn.ntmps with
          | true => match l.any (Nat.beq f) with
            | true => codeQ P (callQ P l B O n) (ansF O f) n c ⟨startL args, g⟩ (endL P fn K)
            | false => match fn.name == "runtime.NumGoroutine" with
              | true => False
              | false => codeQ P (callQ P l B O n) (ansF O f) n (pruneC fn.ntmps c) ⟨startL args, g⟩ (endL P fn K)
          | false => False
        | none => False
      | none => False
theorem callQ_sound (hm : P.follows .mixedOrders = true) {l : List FuncId} (hl : l.all (fineF P) = true) {B : Known} {O : Answers} : ∀ (n : Nat), Le (callQ P l B O n) (Ok P) := by
  intro n
  induction n with
  | zero => intro f args g K K' hk h; exact h.elim
  | succ n ih =>
    intro f args g K K' hk h
    refine Ok.mono ?_ hk
    unfold callQ at h
    split at h
    · exact h.1.to h.2
    · split at h
      · rename_i fn hfn
        split at h
        · rename_i c hc
          split at h
          · rename_i hlen
            split at h
            · rename_i hany
              obtain ⟨f', hf1, hf2⟩ := List.any_eq_true.1 hany
              have hf3 := Nat.eq_of_beq_eq_true hf2
              subst hf3
              have hfine := List.all_eq_true.1 hl f hf1
              unfold fineF at hfine
              simp only [hfn, hc, Bool.and_eq_true, Bool.not_eq_true'] at hfine
              exact ok_of_code hm hfn hc hfine.2 hfine.1 (Nat.le_of_ble_eq_true hlen) (codeQ_sound ih ok_mono c n _ _ h)
            · split at h
              · exact h.elim
              · rename_i hname
                exact ok_of_prune hm hfn hc (by simpa using hname) (Nat.le_of_ble_eq_true hlen) (codeQ_sound ih ok_mono _ n _ _ h)
          · exact h.elim
        · exact h.elim
      · exact h.elim

end Go.Lm

/-
  The logical machine, part Y: calls that depend on one value alone, by a table.
-/
namespace Go.Lm

variable {P : Program}

/-- Integers that it is not. -/
def neAll (e : Int) : List Int → Prop → Prop
  | [], K => K
  | k :: ks, K => some (e == k) = some false ∧ neAll e ks K
theorem neAll_of {e : Int} {K : Prop} (hK : K) : ∀ {ks : List Int}, (∀ k ∈ ks, e ≠ k) → neAll e ks K
  | [], _ => hK
  | k :: ks, h => ⟨by rw [beq_eq_false_iff_ne.2 (h k (by simp))], neAll_of hK fun k hk => h k (by simp [hk])⟩
theorem binL_eql_int (t : TypeId) (lit : Bool) (k : IntKind) (a b : Int) : binL P .eql t lit (.int k a) (.int k b) = some (.bool (a == b)) := by cases k <;> rfl
theorem binL_neq_int (t : TypeId) (lit : Bool) (k : IntKind) (a b : Int) : binL P .neq t lit (.int k a) (.int k b) = some (.bool (!(a == b))) := by cases k <;> rfl
theorem binL_lss_int (t : TypeId) (lit : Bool) (k : IntKind) (a b : Int) : binL P .lss t lit (.int k a) (.int k b) = some (.bool (decide (a < b))) := by cases k <;> rfl
theorem binL_leq_int (t : TypeId) (lit : Bool) (k : IntKind) (a b : Int) : binL P .leq t lit (.int k a) (.int k b) = some (.bool (decide (a ≤ b))) := by cases k <;> rfl
theorem binL_gtr_int (t : TypeId) (lit : Bool) (k : IntKind) (a b : Int) : binL P .gtr t lit (.int k a) (.int k b) = some (.bool (decide (a > b))) := by cases k <;> rfl
theorem binL_geq_int (t : TypeId) (lit : Bool) (k : IntKind) (a b : Int) : binL P .geq t lit (.int k a) (.int k b) = some (.bool (decide (a ≥ b))) := by cases k <;> rfl
theorem binL_eql_str (t : TypeId) (lit : Bool) (a b : List UInt8) : binL P .eql t lit (.str a) (.str b) = some (.bool (a == b)) := rfl
theorem binL_neq_str (t : TypeId) (lit : Bool) (a b : List UInt8) : binL P .neq t lit (.str a) (.str b) = some (.bool (!(a == b))) := rfl
/-- This, asked of each of these integers (on the right, on the left), is no. -/
def noAll (P : Program) (t : TypeId) (lit : Bool) (k : IntKind) (e : Int) : List Int → Prop → Prop
  | [], K => K
  | x :: xs, K => binL P .eql t lit (.int k e) (.int k x) = some (.bool false) ∧ noAll P t lit k e xs K
def noAll' (P : Program) (t : TypeId) (lit : Bool) (k : IntKind) (e : Int) : List Int → Prop → Prop
  | [], K => K
  | x :: xs, K => binL P .eql t lit (.int k x) (.int k e) = some (.bool false) ∧ noAll' P t lit k e xs K
theorem noAll_of {t : TypeId} {lit : Bool} {k : IntKind} {e : Int} {K : Prop} (hK : K) : ∀ {ks : List Int}, (∀ k ∈ ks, e ≠ k) → noAll P t lit k e ks K
  | [], _ => hK
  | x :: xs, h => ⟨by rw [binL_eql_int, beq_eq_false_iff_ne.2 (h x (by simp))], noAll_of hK fun k hk => h k (by simp [hk])⟩
theorem noAll'_of {t : TypeId} {lit : Bool} {k : IntKind} {e : Int} {K : Prop} (hK : K) : ∀ {ks : List Int}, (∀ k ∈ ks, e ≠ k) → noAll' P t lit k e ks K
  | [], _ => hK
  | x :: xs, h => ⟨by rw [binL_eql_int, beq_eq_false_iff_ne.2 (fun e => h x (by simp) e.symm)], noAll'_of hK fun k hk => h k (by simp [hk])⟩
/-- The same of strings. -/
def noStr (P : Program) (t : TypeId) (lit : Bool) (e : List UInt8) : List (List UInt8) → Prop → Prop
  | [], K => K
  | x :: xs, K => binL P .eql t lit (.str x) (.str e) = some (.bool false) ∧ noStr P t lit e xs K
theorem noStr_of {t : TypeId} {lit : Bool} {e : List UInt8} {K : Prop} (hK : K) : ∀ {ks : List (List UInt8)}, (∀ k ∈ ks, e ≠ k) → noStr P t lit e ks K
  | [], _ => hK
  | x :: xs, h => ⟨by rw [binL_eql_str, beq_eq_false_iff_ne.2 (fun e => h x (by simp) e.symm)], noStr_of hK fun k hk => h k (by simp [hk])⟩

/-- A table's answer. -/
def tblOf (tbl : List (LV × LV)) (d : LV) (x : LV) : LV :=
  match tbl.find? fun e => e.1.eqb x with
  | some e => e.2
  | none => d
theorem tblOf_cases {tbl : List (LV × LV)} {d x : LV} {Q : LV → LV → Prop} (h1 : ∀ e ∈ tbl, Q e.1 e.2) (h2 : (∀ e ∈ tbl, e.1.eqb x = false) → Q x d) : Q x (tblOf tbl d x) := by
  unfold tblOf
  split
  · rename_i e he
    have h3 := List.find?_some he
    have := LV.eqb_eq _ _ h3
    rw [← this]
    exact h1 e (List.mem_of_find?_eq_some he)
  · rename_i he
    exact h2 fun e hm => by
      have := List.find?_eq_none.1 he e hm
      simpa using this
/-- A call of one plain value is told by a table: the kernel has computed each of its lines, and what is in no line is told by the rest. -/
theorem pure_table (hm : P.follows .mixedOrders = true) {l : List FuncId} (hl : l.all (fineF P) = true) {n : Nat} {f : FuncId} {tbl : List (LV × LV)} {d x : LV}
    (hc : (tbl.all fun e => flats [e.1] && e.2.flat && callB P l n f [e.1] (emp 0) fun v _ => v.eqb e.2) = true) (ho : (∀ e ∈ tbl, e.1.eqb x = false) → Pure P f [x] d) : Pure P f [x] (tblOf tbl d x) := by
  refine tblOf_cases (Q := fun a b => Pure P f [a] b) (fun e he => ?_) ho
  have := List.all_eq_true.1 hc e he
  simp only [Bool.and_eq_true] at this
  exact Pure.of this.1.1 this.1.2 (((callB_sound hm hl n).call f _ _ _ this.2).mono fun v _ h => LV.eqb_eq _ _ h)
theorem pure_computed (hm : P.follows .mixedOrders = true) {l : List FuncId} (hl : l.all (fineF P) = true) {n : Nat} {f : FuncId} {args : List LV} {r : LV}
    (hc : (flats args && r.flat && callB P l n f args (emp 0) fun v _ => v.eqb r) = true) : Pure P f args r := by
  simp only [Bool.and_eq_true] at hc
  exact Pure.of hc.1.1 hc.1.2 (((callB_sound hm hl n).call f _ _ _ hc.2).mono fun v _ h => LV.eqb_eq _ _ h)
theorem pure_asked (hm : P.follows .mixedOrders = true) {l : List FuncId} (hl : l.all (fineF P) = true) {B : Known} {O : Answers} {n : Nat} {f : FuncId} {args : List LV} {r : LV} (ha : flats args = true) (hr : r.flat = true)
    (h : callQ P l B O n f args (emp 0) fun v _ => v = r) : Pure P f args r :=
  Pure.of ha hr (callQ_sound hm hl n f args (emp 0) _ _ (fun _ _ h => h) h)
theorem pure_asked' (hm : P.follows .mixedOrders = true) {l : List FuncId} (hl : l.all (fineF P) = true) {B : Known} {O : Answers} {n : Nat} {f : FuncId} {args : List LV} {r : LV} {Q : Prop} (ha : (flats args && r.flat) = true)
    (h : callQ P l B O n f args (emp 0) (fun v _ => v = r) = Q) (hq : Q) : Pure P f args r := by
  simp only [Bool.and_eq_true] at ha
  exact pure_asked hm hl ha.1 ha.2 (h.symm ▸ hq)
theorem asked_true (hm : P.follows .mixedOrders = true) {l : List FuncId} (hl : l.all (fineF P) = true) {B : Known} {O : Answers} {n : Nat} {f : FuncId} {args : List LV} {g : LHeap} {Q : Prop}
    (h : callQ P l B O n f args g (fun v _ => v = .bool true) = Q) (hq : Q) : Ok P f args g fun v _ => v = .bool true :=
  callQ_sound hm hl n f args g _ _ (fun _ _ h => h) (h.symm ▸ hq)

theorem Le.refl_of {C : CallSem} (h : Mono C) : Le C C := h
/-- Asked, whatever objects are handed in and never looked at. -/
theorem blind_asked (hm : P.follows .mixedOrders = true) {l : List FuncId} (hl : l.all (fineF P) = true) {B : Known} {O : Answers} {n k : Nat} {f : FuncId} {args : List LV} {g : LHeap} {Q : Prop} (s : Nat → Nat) (hk : unders k args = true)
    (h : callQ P l B O n f args (emp k) (fun v _ => v = .bool true) = Q) (hq : Q) : Ok P f (rens s args) g fun v _ => v = .bool true :=
  (Ok.blind (g := g) s (callQ_sound hm hl n f args (emp k) _ _ (fun _ _ h => h) (h.symm ▸ hq)) hk fun v g0 h => by rw [h]; rfl).mono fun _ _ ⟨_, _, h⟩ => h

end Go.Lm

/-
  The logical machine, part Z: what it takes to read a function's printed code step by step.
-/
namespace Go.Lm

variable {P : Program} {C : CallSem} {g : LHeap}

/-- Not by unfolding. -/
theorem nr {α : Sort _} {a b : α} (h : a = b) : a = b := h
theorem c2_seq (a b : Code) (st : LSt) (K : LEx → LSt → Prop) : code2 P C (.seq a b) st K = code2 P C a st (thenL (fun st' => code2 P C b st' K) K) := nr rfl
theorem c2_block (i : Nat) (b : Code) (st : LSt) (K : LEx → LSt → Prop) : code2 P C (.block i b) st K = code2 P C b st (exitL i K) := nr rfl
theorem c2_loop (b : Code) (st : LSt) (K : LEx → LSt → Prop) : code2 P C (.loop b) st K = loopL (code2 P C b) st K := nr rfl
theorem c2_skip (st : LSt) (K : LEx → LSt → Prop) : code2 P C .skip st K = K .normal st := nr rfl
theorem c2_exit (i : Nat) (st : LSt) (K : LEx → LSt → Prop) : code2 P C (.exit i) st K = K (.exit i) st := nr rfl
theorem c2_ret (st : LSt) (K : LEx → LSt → Prop) : code2 P C .ret st K = K .ret st := nr rfl
theorem then_normal (k : LSt → Prop) (K : LEx → LSt → Prop) (st : LSt) : thenL k K .normal st = k st := nr rfl
theorem then_exit (k : LSt → Prop) (K : LEx → LSt → Prop) (st : LSt) (i : Nat) : thenL k K (.exit i) st = K (.exit i) st := nr rfl
theorem then_ret (k : LSt → Prop) (K : LEx → LSt → Prop) (st : LSt) : thenL k K .ret st = K .ret st := nr rfl
theorem exit_normal (i : Nat) (K : LEx → LSt → Prop) (st : LSt) : exitL i K .normal st = K .normal st := nr rfl
theorem exit_ret (i : Nat) (K : LEx → LSt → Prop) (st : LSt) : exitL i K .ret st = K .ret st := nr rfl
theorem exit_exit (i j : Nat) (K : LEx → LSt → Prop) (st : LSt) : exitL i K (.exit j) st = if j = i then K .normal st else K (.exit j) st := by
  simp only [exitL]
  by_cases h : j = i
  · simp [h]
  · have : Nat.beq j i = false := by
      cases hb : Nat.beq j i with
      | false => rfl
      | true => exact absurd (Nat.eq_of_beq_eq_true hb) h
    simp [h, this]
theorem put_at (tm : Nat → LV) (d : Nat) (v : LV) (i : Nat) : putL tm (some d) v i = if i = d then v else tm i := by
  simp only [putL]
  by_cases h : i = d
  · simp [h]
  · have : Nat.beq i d = false := by
      cases hb : Nat.beq i d with
      | false => rfl
      | true => exact absurd (Nat.eq_of_beq_eq_true hb) h
    simp [h, this]
theorem binL_add_int (t : TypeId) (lit : Bool) (k : IntKind) (a b : Int) : binL P .add t lit (.int k a) (.int k b) = some (.int k (k.wrap (a + b))) := by cases k <;> rfl
theorem binL_sub_int (t : TypeId) (lit : Bool) (k : IntKind) (a b : Int) : binL P .sub t lit (.int k a) (.int k b) = some (.int k (k.wrap (a - b))) := by cases k <;> rfl
theorem binL_mul_int (t : TypeId) (lit : Bool) (k : IntKind) (a b : Int) : binL P .mul t lit (.int k a) (.int k b) = some (.int k (k.wrap (a * b))) := by cases k <;> rfl
theorem pick_true (a b : LV) : pickL (.bool true) a b = some a := nr rfl
theorem pick_false (a b : LV) : pickL (.bool false) a b = some b := nr rfl
theorem ifB_of (b : Bool) (A B : Prop) : ifB (.bool b) A B = if b then A else B := by cases b <;> simp
theorem nilCheck_ptr (a off : Nat) : nilCheckP P (.ptr a off) = some (.ptr a off) := nr rfl
theorem unL_not (b : Bool) : unL .not (.bool b) = some (.bool !b) := by cases b <;> rfl
/-- Down the code, as far as nothing is asked. -/
theorem set_same {a : Nat} {o : LObj} (h : g.get a = some o) : g.set a o = g :=
  LHeap.ext (fun i => by
    simp only [LHeap.get_set]
    split
    · rename_i e; rw [e, h]
    · rfl) rfl
theorem set_set (a : Nat) (o p : LObj) : (g.set a o).set a p = g.set a p :=
  LHeap.ext (fun i => by simp only [LHeap.get_set]; split <;> rfl) rfl
theorem get_set_same (a : Nat) (o : LObj) : (g.set a o).get a = some o := by simp
/-- Behind a round. -/
def roundL (I : LSt → Prop) (μ : LSt → Nat) (s : LSt) (K : LEx → LSt → Prop) : LEx → LSt → Prop := fun e s' =>
  match e with
  | .normal => I s' ∧ μ s' < μ s
  | e => K e s'
theorem round_normal (I : LSt → Prop) (μ : LSt → Nat) (s st : LSt) (K : LEx → LSt → Prop) : roundL I μ s K .normal st = (I st ∧ μ st < μ s) := nr rfl
theorem round_exit (I : LSt → Prop) (μ : LSt → Nat) (s st : LSt) (K : LEx → LSt → Prop) (i : Nat) : roundL I μ s K (.exit i) st = K (.exit i) st := nr rfl
theorem round_ret (I : LSt → Prop) (μ : LSt → Nat) (s st : LSt) (K : LEx → LSt → Prop) : roundL I μ s K .ret st = K .ret st := nr rfl
/-- A loop, from a state that stands at it: an invariant with a measure. -/
theorem loop_of {body : LSt → (LEx → LSt → Prop) → Prop} {st : LSt} {K : LEx → LSt → Prop} (I : LSt → Prop) (μ : LSt → Nat) (h : I st) (hr : ∀ s, I s → body s (roundL I μ s K)) : loopL body st K := ⟨I, μ, h, hr⟩
theorem vK_i {x : Option LV} {v : LV} {K : LV → Prop} (h : x = some v) (k : K v) : vK x K := by rw [h]; exact k
theorem gK_i {x : Option LHeap} {v : LHeap} {K : LHeap → Prop} (h : x = some v) (k : K v) : gK x K := by rw [h]; exact k
theorem oK_i {x : Option (LV × LHeap)} {v : LV} {g' : LHeap} {K : LV → LHeap → Prop} (h : x = some (v, g')) (k : K v g') : oK x K := by rw [h]; exact k
theorem ifB_t {c : LV} {A B : Prop} (h : c = .bool true) (k : A) : ifB c A B := by rw [h]; exact k
theorem ifB_f {c : LV} {A B : Prop} (h : c = .bool false) (k : B) : ifB c A B := by rw [h]; exact k
theorem ok_i {f : FuncId} {args : List LV} {K : LV → LHeap → Prop} {S : LV → LHeap → Prop} (h : Ok P f args g S) (k : ∀ v g', S v g' → K v g') : Ok P f args g K := h.mono k

theorem gdv_f {x : Option LV} {v : LV} {K : LV → LHeap → Prop} (h : x = some v) (k : K v g) : gd (.bool false) false g (fun K => vK x fun v => K v g) K := by rw [gd_false', h]; exact k
theorem gdv_t {x : Option LV} {v : LV} {K : LV → LHeap → Prop} (h : x = some v) (k : K v g) : gd (.bool true) true g (fun K => vK x fun v => K v g) K := by rw [gd_true, h]; exact k
theorem gdo_f {x : Option (LV × LHeap)} {v : LV} {g' : LHeap} {K : LV → LHeap → Prop} (h : x = some (v, g')) (k : K v g') : gd (.bool false) false g (fun K => oK x K) K := by rw [gd_false', h]; exact k
theorem gdo_t {x : Option (LV × LHeap)} {v : LV} {g' : LHeap} {K : LV → LHeap → Prop} (h : x = some (v, g')) (k : K v g') : gd (.bool true) true g (fun K => oK x K) K := by rw [gd_true, h]; exact k
theorem gdk_f {x : LV} {K : LV → LHeap → Prop} (k : K x g) : gd (.bool false) false g (fun K => K x g) K := by rw [gd_false']; exact k
theorem gdk_t {x : LV} {K : LV → LHeap → Prop} (k : K x g) : gd (.bool true) true g (fun K => K x g) K := by rw [gd_true]; exact k
theorem gds_f {op : (LV → LHeap → Prop) → Prop} {K : LV → LHeap → Prop} (k : K undefL g) : gd (.bool true) false g op K := by rw [gd_true']; exact k
theorem gds_t {op : (LV → LHeap → Prop) → Prop} {K : LV → LHeap → Prop} (k : K undefL g) : gd (.bool false) true g op K := by rw [gd_false]; exact k
theorem gds_u {w : Bool} {op : (LV → LHeap → Prop) → Prop} {K : LV → LHeap → Prop} (k : K undefL g) : gd undefL w g op K := k
theorem gdVv_f {x : Option LV} {v : LV} {K : LV → Prop} (h : x = some v) (k : K v) : gdV (.bool false) false x K := by rw [gdV_false', h]; exact k
theorem gdVv_t {x : Option LV} {v : LV} {K : LV → Prop} (h : x = some v) (k : K v) : gdV (.bool true) true x K := by rw [gdV_true, h]; exact k
theorem gdVs_f {x : Option LV} {K : LV → Prop} (k : K undefL) : gdV (.bool true) false x K := by rw [gdV_true']; exact k
theorem gdVs_t {x : Option LV} {K : LV → Prop} (k : K undefL) : gdV (.bool false) true x K := by rw [gdV_false]; exact k
theorem gdVs_u {w : Bool} {x : Option LV} {K : LV → Prop} (k : K undefL) : gdV undefL w x K := k
theorem gdDv_f {x : Option LV} {v : LV} {K : LV → Prop} {N : Prop} (h : x = some v) (k : K v) : gdD (.bool false) false x K N := by rw [gdD_false', h]; exact k
theorem gdDv_t {x : Option LV} {v : LV} {K : LV → Prop} {N : Prop} (h : x = some v) (k : K v) : gdD (.bool true) true x K N := by rw [gdD_true, h]; exact k
theorem gdDs_f {x : Option LV} {K : LV → Prop} {N : Prop} (k : N) : gdD (.bool true) false x K N := by rw [gdD_true']; exact k
theorem gdDs_t {x : Option LV} {K : LV → Prop} {N : Prop} (k : N) : gdD (.bool false) true x K N := by rw [gdD_false]; exact k
theorem gdDs_u {w : Bool} {x : Option LV} {K : LV → Prop} {N : Prop} (k : N) : gdD undefL w x K N := k

theorem ok_a {f : FuncId} {args args' : List LV} {K : LV → LHeap → Prop} {S : LV → LHeap → Prop} (ha : args = args') (h : Ok P f args' g S) (k : ∀ v g', S v g' → K v g') : Ok P f args g K := by rw [ha]; exact h.mono k

theorem gdv_i {c : LV} {w : Bool} {x : Option LV} {v : LV} {K : LV → LHeap → Prop} (hc : c = .bool w) (h : x = some v) (k : K v g) : gd c w g (fun K => vK x fun v => K v g) K := by
  subst hc; cases w
  · exact gdv_f h k
  · exact gdv_t h k
theorem gdo_i {c : LV} {w : Bool} {x : Option (LV × LHeap)} {v : LV} {g' : LHeap} {K : LV → LHeap → Prop} (hc : c = .bool w) (h : x = some (v, g')) (k : K v g') : gd c w g (fun K => oK x K) K := by
  subst hc; cases w
  · exact gdo_f h k
  · exact gdo_t h k
theorem gdk_i {c : LV} {w : Bool} {x : LV} {K : LV → LHeap → Prop} (hc : c = .bool w) (k : K x g) : gd c w g (fun K => K x g) K := by
  subst hc; cases w
  · exact gdk_f k
  · exact gdk_t k
theorem gds_i {c : LV} {w : Bool} {op : (LV → LHeap → Prop) → Prop} {K : LV → LHeap → Prop} (hc : c = .bool (!w)) (k : K undefL g) : gd c w g op K := by
  subst hc; cases w
  · exact gds_f k
  · exact gds_t k
theorem gdVv_i {c : LV} {w : Bool} {x : Option LV} {v : LV} {K : LV → Prop} (hc : c = .bool w) (h : x = some v) (k : K v) : gdV c w x K := by
  subst hc; cases w
  · exact gdVv_f h k
  · exact gdVv_t h k
theorem gdVs_i {c : LV} {w : Bool} {x : Option LV} {K : LV → Prop} (hc : c = .bool (!w)) (k : K undefL) : gdV c w x K := by
  subst hc; cases w
  · exact gdVs_f k
  · exact gdVs_t k
theorem gdDv_i {c : LV} {w : Bool} {x : Option LV} {v : LV} {K : LV → Prop} {N : Prop} (hc : c = .bool w) (h : x = some v) (k : K v) : gdD c w x K N := by
  subst hc; cases w
  · exact gdDv_f h k
  · exact gdDv_t h k
theorem gdDs_i {c : LV} {w : Bool} {x : Option LV} {K : LV → Prop} {N : Prop} (hc : c = .bool (!w)) (k : N) : gdD c w x K N := by
  subst hc; cases w
  · exact gdDs_f k
  · exact gdDs_t k
theorem fa (o a off : Nat) : fieldAddrL o (.ptr a off) = some (.ptr a (off + o)) := nr rfl
theorem blen (t : TypeId) (x : LV) (h : LHeap) : builtinL P .len [t] [x] h = (lenL P t x h).map fun v => (v, h) := nr rfl
/-! Short names for what each step rests on. -/
section
variable {P : Program}
theorem zz1 (tm : Nat → LV) (d : Nat) (v : LV) (j : Nat) : putL tm (some d) v j = if j = d then v else tm j := put_at tm d v j
theorem zz2 (a b : LV) : pickL (.bool true) a b = some a := pick_true a b
theorem zz3 (a b : LV) : pickL (.bool false) a b = some b := pick_false a b
theorem zz4 (a off : Nat) : nilCheckP P (.ptr a off) = some (.ptr a off) := nilCheck_ptr a off
theorem zz5 (b : Bool) : unL .not (.bool b) = some (.bool !b) := unL_not b
theorem zz6 (t : TypeId) (lit : Bool) (k : IntKind) (a b : Int) : binL P .lss t lit (.int k a) (.int k b) = some (.bool (decide (a < b))) := binL_lss_int t lit k a b
theorem zz7 (t : TypeId) (lit : Bool) (k : IntKind) (a b : Int) : binL P .gtr t lit (.int k a) (.int k b) = some (.bool (decide (b < a))) := binL_gtr_int t lit k a b
theorem zz8 (t : TypeId) (lit : Bool) (k : IntKind) (a b : Int) : binL P .eql t lit (.int k a) (.int k b) = some (.bool (a == b)) := binL_eql_int t lit k a b
theorem zz9 (t : TypeId) (lit : Bool) (k : IntKind) (a b : Int) : binL P .neq t lit (.int k a) (.int k b) = some (.bool (!(a == b))) := binL_neq_int t lit k a b
theorem zz10 (t : TypeId) (lit : Bool) (k : IntKind) (a b : Int) : binL P .add t lit (.int k a) (.int k b) = some (.int k (k.wrap (a + b))) := binL_add_int t lit k a b
theorem zz11 (t : TypeId) (lit : Bool) (k : IntKind) (a b : Int) : binL P .sub t lit (.int k a) (.int k b) = some (.int k (k.wrap (a - b))) := binL_sub_int t lit k a b
theorem zz12 (t : TypeId) (lit : Bool) (k : IntKind) (a b : Int) : binL P .mul t lit (.int k a) (.int k b) = some (.int k (k.wrap (a * b))) := binL_mul_int t lit k a b
theorem zz13 (t : TypeId) (lit : Bool) (k : IntKind) (a b : Int) : binL P .leq t lit (.int k a) (.int k b) = some (.bool (decide (a ≤ b))) := binL_leq_int t lit k a b
theorem zz14 (t : TypeId) (lit : Bool) (k : IntKind) (a b : Int) : binL P .geq t lit (.int k a) (.int k b) = some (.bool (decide (b ≤ a))) := binL_geq_int t lit k a b
end

end Go.Lm

/-
  The logical machine, part 0 (behind Z): a function's code as a text of named values; joins, rounds of loops; what it takes to read such a text.
-/
namespace Go.Lm

variable {P : Program} {C : CallSem} {g : LHeap}

/-- A loop over named values: something that holds at each round's head, and a number that falls. -/
def loopP {S : Type} (B : S → LHeap → (S → LHeap → Prop) → Prop) (s : S) (g : LHeap) : Prop :=
  ∃ (I : S → LHeap → Prop) (μ : S → LHeap → Nat), I s g ∧ ∀ s g, I s g → B s g fun s' g' => I s' g' ∧ μ s' g' < μ s g
theorem loop_p {S : Type} {B : S → LHeap → (S → LHeap → Prop) → Prop} {s : S} {g : LHeap} (I : S → LHeap → Prop) (μ : S → LHeap → Nat) (h : I s g) (hr : ∀ s g, I s g → B s g fun s' g' => I s' g' ∧ μ s' g' < μ s g) : loopP B s g := ⟨I, μ, h, hr⟩
def roundK {A S : Type} (fx : (Nat → LV) → A) (vr : (Nat → LV) → S) (R : A → S → LHeap → Prop) (K : LEx → LSt → Prop) : LEx → LSt → Prop := fun e st =>
  match e with
  | .normal => R (fx st.tm) (vr st.tm) st.g
  | e => K e st
theorem kmp {a b : Prop} (h : a = b) (x : a) : b := h ▸ x
theorem seq_i {c a b : Code} {K : LEx → LSt → Prop} {st : LSt} {k' : LSt → Prop} (hs : c = .seq a b) (hb : ∀ st, k' st → codeL P (Ok P) b st K) (ha : codeL P (Ok P) a st (thenL k' K)) : codeL P (Ok P) c st K := by
  subst hs
  refine codeL_mono ok_mono a st _ _ (fun e st' h' => ?_) ha
  cases e with
  | normal => exact hb st' h'
  | _ => exact h'
theorem cond_i {c a b : Code} {t : Nat} {K : LEx → LSt → Prop} {tm : Nat → LV} {A B : Prop} (hs : c = .cond (.tmp t) a b) (h : ifB (tm t) A B) (ha : A → codeL P (Ok P) a ⟨tm, g⟩ K) (hb : B → codeL P (Ok P) b ⟨tm, g⟩ K) : codeL P (Ok P) c ⟨tm, g⟩ K := by
  subst hs
  simp only [codeL]
  unfold ifB at h
  have e : evL tm (.tmp t) = tm t := rfl
  rw [e]
  split at h
  · rename_i hc; simp only [hc]; exact ha h
  · rename_i hc; simp only [hc]; exact hb h
  · exact h.elim
theorem block_i {c b : Code} {i : Nat} {K : LEx → LSt → Prop} {st : LSt} (hs : c = .block i b) (h : codeL P (Ok P) b st (exitL i K)) : codeL P (Ok P) c st K := by subst hs; exact h
theorem scope_i {c b : Code} {K : LEx → LSt → Prop} {st : LSt} (hs : c = .scope b) (h : codeL P (Ok P) b st K) : codeL P (Ok P) c st K := by subst hs; exact h
theorem loop_glue {A S : Type} {c b : Code} {K : LEx → LSt → Prop} (hs : c = .loop b) (fx : (Nat → LV) → A) (vr : (Nat → LV) → S) (B : A → S → LHeap → (S → LHeap → Prop) → Prop)
    (hB : ∀ (tm : Nat → LV) (g : LHeap) (R : A → S → LHeap → Prop), B (fx tm) (vr tm) g (fun s g => R (fx tm) s g) → codeL P (Ok P) b ⟨tm, g⟩ (roundK fx vr R K)) (tm : Nat → LV) (g : LHeap)
    (h : loopP (B (fx tm)) (vr tm) g) : codeL P (Ok P) c ⟨tm, g⟩ K := by
  subst hs
  obtain ⟨I, μ, h0, h1⟩ := h
  refine ⟨fun st => fx st.tm = fx tm ∧ I (vr st.tm) st.g, fun st => μ (vr st.tm) st.g, ⟨rfl, h0⟩, ?_⟩
  rintro ⟨tm', g'⟩ ⟨e, hI⟩
  have h2 := h1 _ _ hI
  have h3 := hB tm' g' (fun a s g'' => a = fx tm ∧ I s g'' ∧ μ s g'' < μ (vr tm') g')
  rw [e] at h3
  simp only [true_and] at h3
  refine codeL_mono ok_mono b _ _ _ (fun e st' h' => ?_) (h3 h2)
  cases e with
  | normal => exact ⟨⟨h'.1, h'.2.1⟩, h'.2.2⟩
  | _ => exact h'
/-- The results of a function of which some stand in the heap. -/
def retC (P : Program) (rs : List ResultVar) (vs : List (Nat × LV)) (g : LHeap) (K : LV → LHeap → Prop) : Prop :=
  match resL P (fun i => (vs.lookup i).getD undefL) g rs with
  | some vs => K (oneL vs) g
  | none => False
/-- A function's contract, out of what its body does. -/
theorem ok_f {f : FuncId} {fn : Func} {c : Code} {args : List LV} {K : LV → LHeap → Prop} (hm : P.follows .mixedOrders = true) (hf : P.funcs[f]? = some fn) (hfine : fineF P f = true) (hlen : args.length.ble fn.ntmps = true) (hc : c = bodyC P f)
    (hK : codeL P (Ok P) c ⟨startL args, g⟩ (endL P fn K)) : Ok P f args g K := by
  have hs : fn.body.isSome = true := by
    unfold fineF at hfine
    simp only [hf] at hfine
    cases h : fn.body with
    | none => rw [h] at hfine; cases hfine
    | some c => rfl
  have hb := body_of hf hs
  have hfine' := hfine
  unfold fineF at hfine'
  simp only [hf, hb, Bool.and_eq_true, Bool.not_eq_true'] at hfine'
  subst hc
  exact ok_of_code hm hf hb hfine'.2 hfine'.1 (Nat.le_of_ble_eq_true hlen) hK

/-! ### Ranges over functions -/
/-- A range over a function has ended: by the jump that a round left behind. -/
def leaveP (a : Nat) (g : LHeap) (N : LHeap → Prop) (E : Nat → LHeap → Prop) (R : LHeap → Prop) : Prop :=
  match g.get a with
  | some (.loop r) => r.state ≠ .busy ∧ match r.pending with
    | none => N (g.erase a)
    | some (.exit id) => E id (g.erase a)
    | some .ret => R (g.erase a)
    | _ => False
  | _ => False
/-- A range over a function: it is called with what makes a round; a round does what Rd says. -/
def rangeP (P : Program) (f : LV) (g : LHeap) (Rd : Nat → List LV → LHeap → (LV → LHeap → Prop) → Prop) (N : LHeap → Prop) (E : Nat → LHeap → Prop) (R : LHeap → Prop) : Prop :=
  match f with
  | .func (.func fid) first caps => ∀ r : LLoop, r.state = .ready → r.pending = none →
      (∀ a as h p K, h.get a = some (.loop { r with state := .ready, pending := p }) → Rd a as h K → Round P a as h K) →
      Ok P fid (first ++ [.yield g.next] ++ caps) (g.alloc (.loop r)) fun _ g' => leaveP g.next g' N E R
  | _ => False
/-- A round begins. -/
def beginP (a : Nat) (g : LHeap) (K : LHeap → Prop) : Prop :=
  match g.get a with
  | some (.loop r) => r.state = .ready ∧ K (g.set a (.loop { r with state := .busy }))
  | _ => False
/-- A round ends. -/
def endP (a : Nat) (j : Option Code) (g : LHeap) (K : LV → LHeap → Prop) : Prop :=
  match g.get a with
  | some (.loop r) => K (.bool j.isNone) (g.set a (.loop { r with state := if j.isNone then .ready else .done, pending := j }))
  | _ => False
/-- How a round's text says its ends: true: off its end; false: by 'return'; a number: by a jump. -/
def endK (a : Nat) (K : LV → LHeap → Prop) : LV → LHeap → Prop := fun v g =>
  match v with
  | .bool true => endP a none g K
  | .bool false => endP a (some .ret) g K
  | .int _ n => endP a (some (.exit n.toNat)) g K
  | _ => False
def rkE (K : LV → LHeap → Prop) : LEx → LSt → Prop := fun e st =>
  match e with
  | .normal => K (.bool true) st.g
  | .exit id => K (.int .i64 (id : Int)) st.g
  | .ret => K (.bool false) st.g
def onlyN (k : LSt → Prop) : LEx → LSt → Prop := fun e st =>
  match e with
  | .normal => k st
  | _ => False
theorem rkE_end {a : Nat} {K : LV → LHeap → Prop} {e : LEx} {st : LSt} (h : rkE (endK a K) e st) : roundE a K e st := by
  cases e with
  | normal =>
    have h : endP a none st.g K := h
    unfold endP at h
    unfold roundE
    split at h
    · rename_i r hr; simp only [hr]; exact h
    · exact h.elim
  | ret =>
    have h : endP a (some .ret) st.g K := h
    unfold endP at h
    unfold roundE
    split at h
    · rename_i r hr; simp only [hr]; exact h
    · exact h.elim
  | exit id =>
    have h : endP a (some (.exit ((id : Int).toNat))) st.g K := h
    rw [Int.toNat_natCast] at h
    unfold endP at h
    unfold roundE
    split at h
    · rename_i r hr; simp only [hr]; exact h
    · exact h.elim
theorem round_glue {asg body : Code} {st : LSt} {a : Nat} {K : LV → LHeap → Prop} (kB : LSt → Prop) (hB : ∀ st, kB st → codeL P (Ok P) body st (rkE (endK a K)))
    (hA : codeL P (Ok P) asg st (onlyN fun st => beginP a st.g fun g => kB ⟨st.tm, g⟩)) : codeL P (Ok P) asg st (roundB P (Ok P) a body K) := by
  refine codeL_mono ok_mono asg _ _ _ (fun e st' h => ?_) hA
  cases e with
  | normal =>
    have h : beginP a st'.g fun g => kB ⟨st'.tm, g⟩ := h
    unfold beginP at h
    unfold roundB
    split at h
    · rename_i r hr
      simp only [hr]
      exact ⟨h.1, codeL_mono ok_mono body _ _ _ (fun e st h => rkE_end h) (hB _ h.2)⟩
    · exact h.elim
  | _ => exact h.elim
theorem range_glue {A : Type} {c asg body : Code} {f : Operand} {ps : Array Tmp} (hm : P.follows .mixedOrders = true) (hs : c = .rangeFunc f ps asg body) (fx : (Nat → LV) → A) (Rd : A → Nat → List LV → LHeap → (LV → LHeap → Prop) → Prop)
    (hR : ∀ (tm : Nat → LV) (a : Nat) (as : List LV) (g : LHeap) (K : LV → LHeap → Prop), Rd (fx tm) a as g K → as.length = ps.size ∧ codeL P (Ok P) asg ⟨putAll tm (ps.toList.zip as), g⟩ (roundB P (Ok P) a body K))
    {K : LEx → LSt → Prop} (tm : Nat → LV) (g : LHeap) {N : LHeap → Prop} {E : Nat → LHeap → Prop} {R : LHeap → Prop} (hN : ∀ g, N g → K .normal ⟨tm, g⟩) (hE : ∀ id g, E id g → K (.exit id) ⟨tm, g⟩) (hRt : ∀ g, R g → K .ret ⟨tm, g⟩)
    (h : rangeP P (evL tm f) g (Rd (fx tm)) N E R) : codeL P (Ok P) c ⟨tm, g⟩ K := by
  subst hs
  simp only [codeL]
  unfold rangeP at h
  split at h
  rotate_left
  · exact h.elim
  rename_i fid first caps e
  simp only [e]
  refine (h ⟨.ready, none, tm, ps, asg, body⟩ rfl rfl fun a as h' p K' hg hr => ?_).mono fun v g' hl => ?_
  · obtain ⟨h1, h2⟩ := hR tm a as h' K' hr
    exact round_of_code hm hg rfl h1 h2
  · unfold leaveP at hl
    unfold leaveL
    split at hl
    rotate_left
    · exact hl.elim
    rename_i r hr
    simp only [hr]
    refine ⟨hl.1, ?_⟩
    have h2 := hl.2
    split at h2
    · rename_i e; simp only [e]; exact hN _ h2
    · rename_i e; simp only [e]; exact hE _ _ h2
    · rename_i e; simp only [e]; exact hRt _ h2
    · exact h2.elim

/-! ### Reading it: only what stands first is looked at -/
@[congr] theorem vK_congr {x y : Option LV} {K : LV → Prop} (h : x = y) : vK x K = vK y K := by rw [h]
@[congr] theorem gK_congr {x y : Option LHeap} {K : LHeap → Prop} (h : x = y) : gK x K = gK y K := by rw [h]
@[congr] theorem oK_congr {x y : Option (LV × LHeap)} {K : LV → LHeap → Prop} (h : x = y) : oK x K = oK y K := by rw [h]
@[congr] theorem ifB_congr {c d : LV} {A B : Prop} (h : c = d) : ifB c A B = ifB d A B := by rw [h]
@[congr] theorem gd_congr {c d : LV} {w : Bool} {g : LHeap} {op : (LV → LHeap → Prop) → Prop} {K : LV → LHeap → Prop} (h : c = d) : gd c w g op K = gd d w g op K := by rw [h]
@[congr] theorem gdV_congr {c d : LV} {w : Bool} {x : Option LV} {K : LV → Prop} (h : c = d) : gdV c w x K = gdV d w x K := by rw [h]
@[congr] theorem gdD_congr {c d : LV} {w : Bool} {x : Option LV} {K : LV → Prop} {N : Prop} (h : c = d) : gdD c w x K N = gdD d w x K N := by rw [h]
@[congr] theorem ok_congr {f : FuncId} {as bs : List LV} {h : LHeap} {K : LV → LHeap → Prop} (e : as = bs) : Ok P f as h K = Ok P f bs h K := by rw [e]
@[congr] theorem loopP_congr {S : Type} {B : S → LHeap → (S → LHeap → Prop) → Prop} {s t : S} {h : LHeap} (e : s = t) : loopP B s h = loopP B t h := by rw [e]
@[congr] theorem nextMapL_congr {x y : LV} {h : LHeap} {K : LV → LHeap → Prop} (e : x = y) : nextMapL x h K = nextMapL y h K := by rw [e]
@[congr] theorem callV_congr {C : CallSem} {f f' : LV} {as bs : List LV} {h : LHeap} {K : LV → LHeap → Prop} (e : f = f') (e2 : as = bs) : callV P C f as h K = callV P C f' bs h K := by rw [e, e2]
@[congr] theorem round_congr {a b : Nat} {as bs : List LV} {h : LHeap} {K : LV → LHeap → Prop} (e : a = b) (e2 : as = bs) : Round P a as h K = Round P b bs h K := by rw [e, e2]
@[congr] theorem rangeP_congr {f f' : LV} {g g' : LHeap} {Rd : Nat → List LV → LHeap → (LV → LHeap → Prop) → Prop} {N : LHeap → Prop} {E : Nat → LHeap → Prop} {R : LHeap → Prop} (e : f = f') (e2 : g = g') : rangeP P f g Rd N E R = rangeP P f' g' Rd N E R := by rw [e, e2]
@[congr] theorem mkK_congr {x y : LV} {h h' : LHeap} {K : LV → LHeap → Prop} (e : x = y) (e2 : h = h') : mkK x h K = mkK y h' K := by rw [e, e2]

end Go.Lm
