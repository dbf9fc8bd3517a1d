/-
  The logical machine, part X: what a call does is computed as a statement: questions about values that are not known are put, and answered beforehand; calls whose answer is known are not entered.
-/
import Derived.Test.YtaofgdibpbpalaaLmW
namespace Go.Lm

variable {P : Program} {W : World} {keep : Nat → Prop} {ρ : Ren} {g : LHeap} {w : World}

/-- What the one may, the other may. -/
def Le (C C' : CallSem) : Prop := ∀ f args g (K K' : LV → LHeap → Prop), (∀ v g, K v g → K' v g) → C f args g K → C' f args g K'
theorem opL_le {C C' : CallSem} (hC : Le C C') {tm : Nat → LV} {o : Oper} {K K' : LV → LHeap → Prop} (hk : ∀ v g, K v g → K' v g) (h : opL P C tm o g K) : opL P C' tm o g K' := by
  have v1 : ∀ {x : Option LV}, (vK x fun v => K v g) → vK x fun v => K' v g := fun {x} h => by cases x with | none => exact h | some v => exact hk _ _ h
  have g1 : ∀ {x : Option LHeap}, (gK x fun g => K undefL g) → gK x fun g => K' undefL g := fun {x} h => by cases x with | none => exact h | some v => exact hk _ _ h
  have o1 : ∀ {x : Option (LV × LHeap)}, oK x K → oK x K' := fun {x} h => by cases x with | none => exact h | some v => exact hk _ _ h
  unfold opL at h ⊢
  split at h
  all_goals rename_i heq
  all_goals (try simp only [heq])
  any_goals first
    | exact v1 h
    | exact g1 h
    | exact o1 h
    | exact hk _ _ h
    | (cases h; done)
  · cases hz : zeroL P _ with
    | none => rw [hz] at h; exact h
    | some z => rw [hz] at h; exact o1 h
  · unfold nextMapL at h ⊢
    split at h
    · split at h
      · rename_i hr; (try simp only [hr]); exact hk _ _ h
      · rename_i hr
        (try simp only [hr])
        split at h
        · rename_i hm; (try simp only [hm]); exact ⟨h.1, fun e => hk _ _ (h.2.1 e), fun e he hs => hk _ _ (h.2.2 e he hs)⟩
        · exact h.elim
      · exact h.elim
    · exact h.elim
  · split at h
    · rename_i hc; (try simp only [hc]); exact o1 h
    · rename_i hc
      (try simp only [hc])
      unfold callV at h ⊢
      split at h
      · rename_i hf
        (try simp only [hf])
        split at h
        · rename_i hx; (try simp only [hx]); exact hk _ _ h
        · rename_i hx; (try simp only [hx]); exact hC _ _ _ _ _ hk h
      · exact h.elim
    · rename_i hc
      (try simp only [hc])
      split at h
      · rename_i hr
        (try simp only [hr])
        split at h
        · rename_i hm; (try simp only [hm]); exact hC _ _ _ _ _ hk h
        · exact h.elim
      · exact h.elim
theorem stepL_le {C C' : CallSem} (hC : Le C C') {ops : Array Oper} {o : Oper} {st : LSt} {K K' : LSt → Prop} (hk : ∀ st, K st → K' st) (h : stepL P C ops o st K) : stepL P C' ops o st K' := by
  unfold stepL at h ⊢
  split at h
  · rename_i hg; (try simp only [hg]); exact opL_le hC (fun _ _ => hk _) h
  · rename_i j want hg
    (try simp only [hg])
    split at h
    · exact h.elim
    · rename_i d hd
      (try simp only [hd])
      split at h
      · rename_i hb
        (try simp only [hb])
        cases want with
        | true => simp only [if_true] at h ⊢; exact opL_le hC (fun _ _ => hk _) h
        | false => simp only [Bool.false_eq_true, if_false] at h ⊢; exact hk _ h
      · rename_i hb
        (try simp only [hb])
        cases want with
        | true => simp only [if_true] at h ⊢; exact hk _ h
        | false => simp only [Bool.false_eq_true, if_false] at h ⊢; exact opL_le hC (fun _ _ => hk _) h
      · rename_i hb
        (try simp only [hb])
        exact hk _ h
      · exact h.elim

theorem runL_le {C C' : CallSem} (hC : Le C C') {ops : Array Oper} {K K' : LSt → Prop} (hk : ∀ st, K st → K' st) : ∀ (l : List Oper) (st : LSt), runL P C ops l st K → runL P C' ops l st K'
  | [], _, h => hk _ h
  | _ :: rest, _, h => stepL_le hC (fun st' h' => runL_le hC hk rest st' h') h
theorem drawL_le {C C' : CallSem} (hC : Le C C') {ops : Array Oper} {ms : List Nat} {K K' : LSt → Prop} (hk : ∀ st, K st → K' st) : ∀ (n : Nat) (listed : Array Bool) (D : List Held) (st : LSt), drawL P C ops ms n listed D st K → drawL P C' ops ms n listed D st K' := by
  intro n
  induction n with
  | zero =>
    intro listed D st h
    unfold drawL at h ⊢
    split at h
    · rename_i hr; (try rw [hr]); exact hk _ h
    · exact h.elim
  | succ n ih =>
    intro listed D st h
    unfold drawL at h ⊢
    split at h
    · rename_i hr; (try rw [hr]); exact hk _ h
    · rename_i r rs hr
      (try rw [hr])
      (try simp only [])
      split at h
      · rename_i i o reads hp
        (try rw [hp])
        exact lightStep_mono (fun D' st' h' => ih _ _ _ h') h
      · rename_i hp
        (try rw [hp])
        refine allL_mono (fun i hi => ?_) _ h
        split at hi
        · rename_i o ho
          (try simp only [ho])
          split at hi
          · exact hi.elim
          · rename_i hk'
            (try simp only [hk'])
            exact stepL_le hC (fun st' h' => ⟨h'.1, ih _ _ _ h'.2⟩) hi
        · exact hi.elim

/-- A call that yields r, and leaves the heap. -/
def Pure (P : Program) (f : FuncId) (args : List LV) (r : LV) : Prop := ∀ g, Ok P f args g fun v g' => v = r ∧ g' = g
theorem Pure.of {f : FuncId} {args : List LV} {r : LV} (ha : flats args = true) (hr : r.flat = true) (h : Ok P f args (emp 0) fun v _ => v = r) : Pure P f args r := fun _ =>
  (Ok.alone h ha fun v _ hv => by rw [hv]; exact hr).mono fun _ _ ⟨h1, _, h2⟩ => ⟨h2, h1⟩
theorem Pure.to {f : FuncId} {args : List LV} {r : LV} {K : LV → LHeap → Prop} (h : Pure P f args r) (hK : K r g) : Ok P f args g K :=
  (h g).mono fun v g' ⟨h1, h2⟩ => by rw [h1, h2]; exact hK

/-- None of these keys is it. -/
def missP (P : Program) (t : TypeId) (k : LV) : List (LV × LV × Nat) → Prop → Prop
  | [], K => K
  | e :: es, K => eqTy P 60 t k e.1 = some false ∧ missP P t k es K
theorem missP_spec {t : TypeId} {k : LV} {K : Prop} : ∀ {es : List (LV × LV × Nat)} {i : Nat}, missP P t k es K → findL P t k es i = some none ∧ K
  | [], _, h => ⟨rfl, h⟩
  | e :: es, i, h => by
    obtain ⟨h1, h2⟩ := missP_spec (i := i + 1) h.2
    refine ⟨?_, h2⟩
    unfold findL
    rw [h.1]
    exact h1
def entriesL (x : LV) (g : LHeap) : Option (List (LV × LV × Nat)) :=
  match x with
  | .nilm => some []
  | .map a => match g.get a with
    | some (.map es _ _) => some es
    | _ => none
  | _ => none
def missQ (P : Program) (t : TypeId) (x k : LV) (ok : Bool) (g : LHeap) (K : LV → Prop) : Prop :=
  match mapShape P t with
  | some (kt, et) =>
    match checkKeyL P 60 kt k with
    | true =>
      match entriesL x g, zeroL P et with
      | some es, some z => missP P kt k es (K (if ok then .tuple [z, .bool false] else z))
      | _, _ => False
    | false => False
  | none => False
theorem missQ_sound {t : TypeId} {x k : LV} {ok : Bool} {K : LV → Prop} (h : missQ P t x k ok g K) : vK (lookupL P t x k ok g) K := by
  unfold missQ at h
  split at h
  · rename_i kt et hs
    split at h
    · rename_i hc
      split at h
      · rename_i es z he hz
        obtain ⟨h1, h2⟩ := missP_spec (i := 0) h
        have : lookupL P t x k ok g = some (if ok then .tuple [z, .bool false] else z) := by
          unfold entriesL at he
          unfold lookupL
          simp only [hs, hc, if_true]
          split at he
          · cases he; simp only [h1, hz]
          · rename_i a
            split at he
            · rename_i es' c own hg; cases he; simp only [hg, h1, hz]
            · cases he
          · cases he
        rw [this]
        exact h2
      · exact h.elim
    · exact h.elim
  · exact h.elim

def opQ (P : Program) (C : CallSem) (A : Option LV) (tm : Nat → LV) (o : Oper) (g : LHeap) (K : LV → LHeap → Prop) : Prop :=
  match A with
  | none => opL P C tm o g K
  | some v =>
    match o.op with
    | .lookup t x k ok => missQ P t (evL tm x) (evL tm k) ok g fun v => K v g
    | .binOp op t x y _ => binL P op t (isConstO x || isConstO y) (evL tm x) (evL tm y) = some v ∧ K v g
    | .unOp op _ x => unL op (evL tm x) = some v ∧ K v g
    | _ => False
theorem opQ_sound {C : CallSem} {A : Option LV} {tm : Nat → LV} {o : Oper} {K : LV → LHeap → Prop} (h : opQ P C A tm o g K) : opL P C tm o g K := by
  unfold opQ at h
  split at h
  · exact h
  · split at h
    · rename_i ho; unfold opL; simp only [ho]; exact missQ_sound h
    · rename_i ho; unfold opL; simp only [ho, h.1]; exact h.2
    · rename_i ho; unfold opL; simp only [ho, h.1]; exact h.2
    · exact h.elim
def ansO (O : List (Nat × LV)) (dst : Option Nat) : Option LV :=
  match dst with
  | some d => match O.find? fun e => Nat.beq e.1 d with
    | some e => some e.2
    | none => none
  | none => none
def stepQ (P : Program) (C : CallSem) (O : List (Nat × LV)) (ops : Array Oper) (o : Oper) (st : LSt) (K : LSt → Prop) : Prop :=
  match o.guard with
  | none => opQ P C (ansO O o.dst) st.tm o st.g fun v g => K ⟨putL st.tm o.dst v, g⟩
  | some (j, want) =>
    match (ops[j]?).bind (·.dst) with
    | none => False
    | some d => gd (st.tm d) want st.g (fun K => opQ P C (ansO O o.dst) st.tm o st.g K) fun v g => K ⟨putL st.tm o.dst v, g⟩
theorem stepQ_sound {C : CallSem} {O : List (Nat × LV)} {ops : Array Oper} {o : Oper} {st : LSt} {K : LSt → Prop} (h : stepQ P C O ops o st K) : stepL P C ops o st K := by
  refine step2_sound ?_
  unfold stepQ at h
  unfold step2
  split at h
  · rename_i hg; simp only [hg]; exact opQ_sound h
  · rename_i j want hg
    simp only [hg]
    split at h
    · exact h.elim
    · rename_i d hd
      simp only [hd]
      unfold gd at h ⊢
      split at h
      · rename_i b hb
        split at h
        · rename_i hw; rw [if_pos hw]; exact opQ_sound h
        · rename_i hw; rw [if_neg hw]; exact h
      · exact h
      · exact h.elim
def runQ (P : Program) (C : CallSem) (O : List (Nat × LV)) (ops : Array Oper) : List Oper → LSt → (LSt → Prop) → Prop
  | [], st, K => K st
  | o :: rest, st, K => stepQ P C O ops o st fun st' => runQ P C O ops rest st' K
theorem runQ_sound {C C' : CallSem} (hC : Le C C') {O : List (Nat × LV)} {ops : Array Oper} {K : LSt → Prop} : ∀ (l : List Oper) (st : LSt), runQ P C O ops l st K → runL P C' ops l st K
  | [], _, h => h
  | _ :: rest, _, h => stepL_le hC (fun st' h' => runQ_sound hC rest st' h') (stepQ_sound h)
/-- All of them; one alone stands by itself. -/
def allQ : List Nat → (Nat → Prop) → Prop
  | [], _ => True
  | [i], f => f i
  | i :: is, f => f i ∧ allQ is f
theorem allQ_all {f : Nat → Prop} : ∀ {l : List Nat}, allQ l f → allL l f
  | [], _ => trivial
  | [_], h => ⟨h, trivial⟩
  | _ :: _ :: _, h => ⟨h.1, allQ_all h.2⟩
/-- Is it a reference? -/
def isRef : LV → Bool
  | .ptr _ _ | .slice _ _ _ _ | .tail _ _ _ _ _ | .map _ | .nilp | .nils | .nilm => true
  | _ => false
/-- As held2; but references are compared at once. -/
def heldQ (P : Program) (ms : List Nat) (j : Nat) (g : LHeap) : List Held → Prop → Prop
  | [], K => K
  | h :: hs, K =>
    match conc ms h.i j with
    | true =>
      match isRef h.v with
      | true => match lightV P h.tm h.o.op g with
        | some v => match v.eqb h.v with
          | true => heldQ P ms j g hs K
          | false => False
        | none => False
      | false => lightV P h.tm h.o.op g = some h.v ∧ heldQ P ms j g hs K
    | false => heldQ P ms j g hs K
theorem heldQ_spec {ms : List Nat} {j : Nat} {K : Prop} : ∀ {D : List Held}, heldQ P ms j g D K → heldOK P ms j g D ∧ K
  | [], h => ⟨trivial, h⟩
  | d :: D, h => by
    unfold heldQ at h
    split at h
    · split at h
      · split at h
        · rename_i v hv
          split at h
          · rename_i he
            have := heldQ_spec h
            exact ⟨⟨fun _ => by rw [hv, LV.eqb_eq _ _ he], this.1⟩, this.2⟩
          · exact h.elim
        · exact h.elim
      · obtain ⟨h1, h2⟩ := h
        have := heldQ_spec h2
        exact ⟨⟨fun _ => h1, this.1⟩, this.2⟩
    · rename_i hc
      have := heldQ_spec h
      exact ⟨⟨fun e => (by rw [hc] at e; cases e), this.1⟩, this.2⟩
def drawQ (P : Program) (C : CallSem) (ops : Array Oper) (ms : List Nat) : Nat → Array Bool → List Held → LSt → (LSt → Prop) → Prop
  | 0, listed, _, st, K => match Region.ready .any ops listed with
    | [] => K st
    | _ => False
  | n + 1, listed, D, st, K =>
    match Region.ready .any ops listed with
    | [] => K st
    | r :: rs =>
      match pickL1 P ops ms listed (r :: rs) with
      | some (i, o, reads) => light2 P ops ms i o reads D st fun D' st' => drawQ P C ops ms n (listed.setIfInBounds i true) D' st' K
      | none => allQ (r :: rs) fun i =>
        match ops[i]? with
        | some o => match kindO P o.op with
          | some _ => False
          | none => step2 P C ops o st fun st' => heldQ P ms i st'.g D (drawQ P C ops ms n (listed.setIfInBounds i true) D st' K)
        | none => False
theorem drawQ_sound {C C' : CallSem} (hC : Le C C') {ops : Array Oper} {ms : List Nat} {K : LSt → Prop} : ∀ (n : Nat) (listed : Array Bool) (D2 D : List Held) (st : LSt), Cov P ops ms D2 D → drawQ P C ops ms n listed D2 st K → drawL P C' ops ms n listed D st K := by
  intro n
  induction n with
  | zero =>
    intro listed D2 D st _ h
    unfold drawQ at h
    unfold drawL
    split at h
    · rename_i hr; rw [hr]; exact h
    · exact h.elim
  | succ n ih =>
    intro listed D2 D st hcov h
    unfold drawQ at h
    unfold drawL
    split at h
    · rename_i hr; rw [hr]; exact h
    · rename_i r rs hr
      rw [hr]
      simp only []
      split at h
      · rename_i i o reads hp
        rw [hp]
        exact light2_sound hcov (fun D2' D' st' hc h' => ih _ _ _ _ hc h') h
      · rename_i hp
        rw [hp]
        refine allL_mono (fun i hi => ?_) _ (allQ_all h)
        split at hi
        · rename_i o ho
          simp only [ho]
          split at hi
          · exact hi.elim
          · rename_i hk
            simp only [hk]
            refine stepL_le hC (fun st' h' => ?_) (step2_sound hi)
            have h2 := heldQ_spec h'
            exact ⟨hcov i st'.g (Array.getElem?_eq_some_iff.1 ho).1 (by simp [lightAt, ho, hk]) h2.1, ih _ _ _ _ hcov h2.2⟩
        · exact hi.elim

def codeQ (P : Program) (C : CallSem) (O : List (Nat × LV)) : Nat → Code → LSt → (LEx → LSt → Prop) → Prop
  | 0, _, _, _ => False
  | n + 1, c, st, K =>
    match c with
    | .skip => K .normal st
    | .region _ ops true => drawQ P C ops (masks ops.toList []) ops.size (Array.replicate ops.size false) [] st (K .normal)
    | .region _ ops false => runQ P C O ops ops.toList st (K .normal)
    | .seq a b => codeQ P C O n a st (thenL (fun st' => codeQ P C O n b st' K) K)
    | .cond c a b => ifB (evL st.tm c) (codeQ P C O n a st K) (codeQ P C O n b st K)
    | .block id b => codeQ P C O n b st (exitL id K)
    | .loop b => codeQ P C O n b st (thenL (fun st' => codeQ P C O n (.loop b) st' K) K)
    | .exit id => K (.exit id) st
    | .ret => K .ret st
    | .scope b => codeQ P C O n b st K
    | .label _ => K .normal st
    | _ => False
theorem codeQ_sound {C C' : CallSem} (hC : Le C C') (hC' : Mono C') {O : List (Nat × LV)} : ∀ (c : Code) (n : Nat) (st : LSt) (K : LEx → LSt → Prop), codeQ P C O n c st K → codeL P C' c st K := by
  intro c
  induction c with
  | seq a b iha ihb =>
    intro n st K h
    cases n with
    | zero => exact h.elim
    | succ n =>
      refine codeL_mono hC' a st _ _ (fun e st' h' => ?_) (iha n st _ h)
      cases e with
      | normal => exact ihb n st' K h'
      | _ => exact h'
  | cond c a b iha ihb =>
    intro n st K h
    cases n with
    | zero => exact h.elim
    | succ n =>
      simp only [codeQ] at h
      simp only [codeL]
      unfold ifB at h
      split at h
      · rename_i hc; simp only [hc]; exact iha n st K h
      · rename_i hc; simp only [hc]; exact ihb n st K h
      · exact h.elim
  | block id b ih =>
    intro n st K h
    cases n with
    | zero => exact h.elim
    | succ n => exact ih n st _ h
  | loop b ih =>
    intro n st K h
    let T : LSt → Nat → Prop := fun s k => codeQ P C O k (.loop b) s K
    have hmin : ∀ s k, T s k → ∃ m, T s m ∧ ∀ j, T s j → m ≤ j := by
      intro s k
      induction k using Nat.strongRecOn with
      | _ k ihk =>
        intro hk
        by_cases hx : ∃ j, j < k ∧ T s j
        · obtain ⟨j, hj, hT⟩ := hx; exact ihk j hj hT
        · exact ⟨k, hk, fun j hj => Nat.le_of_not_lt fun hlt => hx ⟨j, hlt, hj⟩⟩
    refine ⟨fun s => ∃ k, T s k, fun s => open Classical in if hs : ∃ m, T s m ∧ ∀ j, T s j → m ≤ j then Classical.choose hs else 0, ⟨n, h⟩, ?_⟩
    rintro s ⟨k, hk⟩
    have hs := hmin s k hk
    have hch := Classical.choose_spec hs
    generalize hm : Classical.choose hs = m at hch
    cases m with
    | zero => exact hch.1.elim
    | succ m =>
      have h1 := hch.1
      refine codeL_mono hC' b s _ _ (fun e s1 h' => ?_) (ih m s _ h1)
      cases e with
      | normal =>
        have hT1 : T s1 m := h'
        refine ⟨⟨m, hT1⟩, ?_⟩
        have hs1 := hmin s1 m hT1
        simp only []
        rw [dif_pos hs, dif_pos hs1, hm]
        have := (Classical.choose_spec hs1).2 m hT1
        omega
      | _ => exact h'
  | region id ops d =>
    intro n st K h
    cases n with
    | zero => exact h.elim
    | succ n =>
      cases d with
      | true => exact drawQ_sound hC _ _ [] [] _ (fun _ _ _ _ h => h) h
      | false => exact runQ_sound hC _ _ h
  | skip => intro n st K h; cases n with | zero => exact h.elim | succ n => exact h
  | exit id => intro n st K h; cases n with | zero => exact h.elim | succ n => exact h
  | ret => intro n st K h; cases n with | zero => exact h.elim | succ n => exact h
  | scope b ih => intro n st K h; cases n with | zero => exact h.elim | succ n => exact ih n st _ h
  | label l => intro n st K h; cases n with | zero => exact h.elim | succ n => exact h
  | _ => intro n st K h; cases n <;> exact h.elim

/-- Questions to a function's operations, answered beforehand; by the function, and the slot that is written. -/
abbrev Answers := List (Nat × List (Nat × LV))
def ansF (O : Answers) (f : FuncId) : List (Nat × LV) :=
  match O.find? fun e => Nat.beq e.1 f with
  | some e => e.2
  | none => []
/-- Calls whose answer is known. -/
abbrev Known := List (Nat × (List LV → LV))
def callQ (P : Program) (l : List FuncId) (B : Known) (O : Answers) : Nat → CallSem
  | 0, _, _, _, _ => False
  | n + 1, f, args, g, K =>
    match B.find? fun e => Nat.beq e.1 f with
    | some e => Pure P f args (e.2 args) ∧ K (e.2 args) g
    | none =>
      match P.funcs[f]? with
      | some fn => match fn.body with
        | some c => match Nat.ble args.length fn.ntmps with
          | true => match l.any (Nat.beq f) with
            | true => codeQ P (callQ P l B O n) (ansF O f) n c ⟨startL args, g⟩ (endL P fn K)
            | false => match fn.name == "runtime.NumGoroutine" with
              | true => False
              | false => codeQ P (callQ P l B O n) (ansF O f) n (pruneC fn.ntmps c) ⟨startL args, g⟩ (endL P fn K)
          | false => False
        | none => False
      | none => False
theorem callQ_sound (hm : P.follows .mixedOrders = true) {l : List FuncId} (hl : l.all (fineF P) = true) {B : Known} {O : Answers} : ∀ (n : Nat), Le (callQ P l B O n) (Ok P) := by
  intro n
  induction n with
  | zero => intro f args g K K' hk h; exact h.elim
  | succ n ih =>
    intro f args g K K' hk h
    refine Ok.mono ?_ hk
    unfold callQ at h
    split at h
    · exact h.1.to h.2
    · split at h
      · rename_i fn hfn
        split at h
        · rename_i c hc
          split at h
          · rename_i hlen
            split at h
            · rename_i hany
              obtain ⟨f', hf1, hf2⟩ := List.any_eq_true.1 hany
              have hf3 := Nat.eq_of_beq_eq_true hf2
              subst hf3
              have hfine := List.all_eq_true.1 hl f hf1
              unfold fineF at hfine
              simp only [hfn, hc, Bool.and_eq_true, Bool.not_eq_true'] at hfine
              exact ok_of_code hm hfn hc hfine.2 hfine.1 (Nat.le_of_ble_eq_true hlen) (codeQ_sound ih ok_mono c n _ _ h)
            · split at h
              · exact h.elim
              · rename_i hname
                exact ok_of_prune hm hfn hc (by simpa using hname) (Nat.le_of_ble_eq_true hlen) (codeQ_sound ih ok_mono _ n _ _ h)
          · exact h.elim
        · exact h.elim
      · exact h.elim

end Go.Lm
