/-
  The logical machine, part S: where nothing is left open, what a call does is computed.
-/
import Derived.Test.YtaofgdibpbpalaaLmR
namespace Go.Lm

variable {P : Program} {W : World} {keep : Nat → Prop} {ρ : Ren} {g : LHeap} {w : World}

abbrev CallE := FuncId → List LV → LHeap → Option (LV × LHeap)
/-- What is computed is so. -/
def Agrees (E : CallE) (C : CallSem) : Prop := ∀ f args g v g' (K : LV → LHeap → Prop), E f args g = some (v, g') → K v g' → C f args g K

def withG (o : Option LV) (g : LHeap) : Option (LV × LHeap) :=
  match o with
  | some v => some (v, g)
  | none => none
def withU (o : Option LHeap) : Option (LV × LHeap) :=
  match o with
  | some g => some (undefL, g)
  | none => none
theorem withG_vK {o : Option LV} {v : LV} {g' : LHeap} {K : LV → LHeap → Prop} (h : withG o g = some (v, g')) (hK : K v g') : vK o fun v => K v g := by
  cases o with
  | none => cases h
  | some x => cases h; exact hK
theorem withU_gK {o : Option LHeap} {v : LV} {g' : LHeap} {K : LV → LHeap → Prop} (h : withU o = some (v, g')) (hK : K v g') : gK o fun g => K undefL g := by
  cases o with
  | none => cases h
  | some x => cases h; exact hK
theorem oK_of {o : Option (LV × LHeap)} {v : LV} {g' : LHeap} {K : LV → LHeap → Prop} (h : o = some (v, g')) (hK : K v g') : oK o K := by
  subst h; exact hK

def callVE (P : Program) (E : CallE) (f : LV) (args : List LV) (g : LHeap) : Option (LV × LHeap) :=
  match f with
  | .func (.func f) first caps =>
    match extL P f (first ++ args ++ caps) with
    | some v => some (v, g)
    | none => E f (first ++ args ++ caps) g
  | _ => none
def opE (P : Program) (E : CallE) (tm : Nat → LV) (o : Oper) (g : LHeap) : Option (LV × LHeap) :=
  match o.op with
  | .move x | .assign x => some (evL tm x, g)
  | .pick c a b => withG (pickL (evL tm c) (evL tm a) (evL tm b)) g
  | .alloc t => match zeroL P t with
    | some z => newL z g
    | none => none
  | .box _ x => newL (evL tm x) g
  | .build t parts => withG (buildL P t (parts.toList.map fun p => (p.1, evL tm p.2))) g
  | .buildSlice t len parts => buildSliceL P t len (parts.toList.map fun p => (p.1, evL tm p.2)) g
  | .load t a => withG (loadT P t (evL tm a) g) g
  | .store t a x => withU (storeT P t (evL tm a) (evL tm x) g)
  | .nilCheck x => withG (nilCheckL (evL tm x)) g
  | .binOp op t x y _ => withG (binL P op t (isConstO x || isConstO y) (evL tm x) (evL tm y)) g
  | .unOp op _ x => withG (unL op (evL tm x)) g
  | .convert s d x => convL P s d (evL tm x) g
  | .makeInterface t x => withG (ifaceL P t (evL tm x)) g
  | .makeFunc fn first caps => some (.func fn (first.toList.map (evL tm)) (caps.toList.map (evL tm)), g)
  | .makeMap _ none => some (.map g.next, g.alloc (.map [] 0 .ex))
  | .makeSlice t l c => makeSliceL P t (evL tm l) (evL tm c) g
  | .slice t x lo hi mx => withG (cutT P t (evL tm x) (lo.map (evL tm)) (hi.map (evL tm)) (mx.map (evL tm)) (limL (evL tm x) g)) g
  | .fieldAddr s x f => withG (fieldAddrT P s f (evL tm x)) g
  | .field s x f => withG (fieldVT P s f (evL tm x)) g
  | .indexAddr t x ix => withG (ixAddrT P t (evL tm x) (evL tm ix)) g
  | .index t x ix => withG (indexT P t (evL tm x) (evL tm ix)) g
  | .lookup t x k ok => withG (lookupL P t (evL tm x) (evL tm k) ok g) g
  | .mapUpdate t m k x | .insert t m k x => withU (mapSetL P t (evL tm m) (evL tm k) (evL tm x) g)
  | .mapEntry t m k => mapEntryL P t (evL tm m) (evL tm k) g
  | .entryStore _ m s x => withU (entryStoreL (evL tm m) (evL tm s) (evL tm x) g)
  | .range t x => rangeL P t (evL tm x) g
  | .next it true => nextStrL (evL tm it) g
  | .entry it => withG (entryL (evL tm it) g) g
  | .typeAssert x _ t ok => withG (assertL P (evL tm x) t ok) g
  | .extract x i => withG (extractL (evL tm x) i) g
  | .call c =>
    match c.callee with
    | .builtin b => builtinL P b c.argTypes.toList (c.args.toList.map (evL tm)) g
    | .value f => callVE P E (evL tm f) (c.args.toList.map (evL tm)) g
    | .invoke r name =>
      match evL tm r with
      | .iface t v => match methodL P t name with
        | some f => E f (v :: c.args.toList.map (evL tm)) g
        | none => none
      | _ => none
  | _ => none

theorem opE_sound {E : CallE} {C : CallSem} (hE : Agrees E C) {tm : Nat → LV} {o : Oper} {v : LV} {g' : LHeap} {K : LV → LHeap → Prop} (h : opE P E tm o g = some (v, g')) (hK : K v g') : opL P C tm o g K := by
  unfold opE at h
  unfold opL
  split at h <;> rename_i heq <;> (try simp only [heq])
  any_goals first
    | (cases h; done)
    | exact withG_vK h hK
    | exact withU_gK h hK
    | exact oK_of h hK
    | (cases h; exact hK)
  · split at h
    · rename_i z hz; rw [hz]; exact oK_of h hK
    · cases h
  · split at h
    · rename_i hc; simp only [hc]; exact oK_of h hK
    · rename_i hc
      simp only [hc]
      unfold callVE at h
      split at h
      · rename_i hf
        simp only [hf, callV]
        split at h
        · rename_i hx; simp only [hx]; cases h; exact hK
        · rename_i hx; simp only [hx]; exact hE _ _ _ _ _ _ h hK
      · cases h
    · rename_i hc
      simp only [hc]
      split at h
      · rename_i hr
        simp only [hr]
        split at h
        · rename_i hm; simp only [hm]; exact hE _ _ _ _ _ _ h hK
        · cases h
      · cases h

/-! ### By answers: whichever way it goes, K holds -/
abbrev CallB := FuncId → List LV → LHeap → (LV → LHeap → Bool) → Bool
def AgreesB (E : CallB) (C : CallSem) : Prop := ∀ f args g (K : LV → LHeap → Bool), E f args g K = true → C f args g fun v g' => K v g' = true
def noCall : CallE := fun _ _ _ => none
theorem noCall_agrees (C : CallSem) : Agrees noCall C := fun _ _ _ _ _ _ h => by cases h

def nextMapB (it : LV) (g : LHeap) (K : LV → LHeap → Bool) : Bool :=
  match it with
  | .ptr r 0 => match g.get r with
    | some (.mapIter none _ _ _) => K (.tuple [.bool false]) g
    | some (.mapIter (some m) since seen last) => match g.get m with
      | some (.map es clock _) =>
        !(!seen.isEmpty && !es.isEmpty && es.all (fun e => decide (e.2.2 ≥ last))) &&
        (!((es.filter fun e => !seen.contains e.2.2).filter (fun e => decide (e.2.2 < since))).isEmpty || K (.tuple [.bool false]) g) &&
        es.all fun e => seen.contains e.2.2 || K (.tuple [.bool true, e.1, e.2.1]) (g.set r (.mapIter (some m) since (seen ++ [e.2.2]) clock))
      | _ => false
    | _ => false
  | _ => false
theorem nextMapB_sound {it : LV} {K : LV → LHeap → Bool} (h : nextMapB it g K = true) : nextMapL it g fun v g => K v g = true := by
  unfold nextMapB at h
  unfold nextMapL
  split at h
  · split at h
    · rename_i hr; simp only [hr]; exact h
    · rename_i hr
      simp only [hr]
      split at h
      · rename_i hm
        simp only [hm]
        simp only [Bool.and_eq_true, Bool.not_eq_true', Bool.or_eq_true] at h
        refine ⟨h.1.1, fun hn => ?_, fun e he hs => ?_⟩
        · rcases h.1.2 with h1 | h1
          · rw [hn] at h1; simp at h1
          · exact h1
        · have := List.all_eq_true.1 h.2 e he
          rw [hs] at this
          simpa using this
      · cases h
    · cases h
  · cases h

def callVB (P : Program) (E : CallB) (f : LV) (args : List LV) (g : LHeap) (K : LV → LHeap → Bool) : Bool :=
  match f with
  | .func (.func f) first caps =>
    match extL P f (first ++ args ++ caps) with
    | some v => K v g
    | none => E f (first ++ args ++ caps) g K
  | _ => false
def opB (P : Program) (E : CallB) (tm : Nat → LV) (o : Oper) (g : LHeap) (K : LV → LHeap → Bool) : Bool :=
  match o.op with
  | .next it false => nextMapB (evL tm it) g K
  | .call c =>
    match c.callee with
    | .builtin b => match builtinL P b c.argTypes.toList (c.args.toList.map (evL tm)) g with
      | some r => K r.1 r.2
      | none => false
    | .value f => callVB P E (evL tm f) (c.args.toList.map (evL tm)) g K
    | .invoke r name =>
      match evL tm r with
      | .iface t v => match methodL P t name with
        | some f => E f (v :: c.args.toList.map (evL tm)) g K
        | none => false
      | _ => false
  | _ => match opE P noCall tm o g with
    | some r => K r.1 r.2
    | none => false
theorem opB_sound {E : CallB} {C : CallSem} (hE : AgreesB E C) {tm : Nat → LV} {o : Oper} {K : LV → LHeap → Bool} (h : opB P E tm o g K = true) : opL P C tm o g fun v g => K v g = true := by
  unfold opB at h
  split at h
  · rename_i ho; unfold opL; simp only [ho]; exact nextMapB_sound h
  · rename_i ho
    unfold opL
    simp only [ho]
    split at h
    · rename_i hc
      simp only [hc]
      split at h
      · rename_i r hr; exact oK_of (v := r.1) (g' := r.2) hr h
      · cases h
    · rename_i hc
      simp only [hc]
      unfold callVB at h
      split at h
      · rename_i hf
        simp only [hf, callV]
        split at h
        · rename_i hx; simp only [hx]; exact h
        · rename_i hx; simp only [hx]; exact hE _ _ _ _ h
      · cases h
    · rename_i hc
      simp only [hc]
      split at h
      · rename_i hr
        simp only [hr]
        split at h
        · rename_i hm; simp only [hm]; exact hE _ _ _ _ h
        · cases h
      · cases h
  · split at h
    · rename_i r hr; exact opE_sound (noCall_agrees C) (v := r.1) (g' := r.2) hr h
    · cases h

def stepB (P : Program) (E : CallB) (ops : Array Oper) (o : Oper) (st : LSt) (K : LSt → Bool) : Bool :=
  match o.guard with
  | none => opB P E st.tm o st.g fun v g => K ⟨putL st.tm o.dst v, g⟩
  | some (j, want) =>
    match (ops[j]?).bind (·.dst) with
    | none => false
    | some d =>
      match st.tm d with
      | .bool true => if want then opB P E (putL st.tm (some d) (.bool true)) o st.g fun v g => K ⟨putL (putL st.tm (some d) (.bool true)) o.dst v, g⟩
        else K ⟨putL (putL st.tm (some d) (.bool true)) o.dst undefL, st.g⟩
      | .bool false => if want then K ⟨putL (putL st.tm (some d) (.bool false)) o.dst undefL, st.g⟩
        else opB P E (putL st.tm (some d) (.bool false)) o st.g fun v g => K ⟨putL (putL st.tm (some d) (.bool false)) o.dst v, g⟩
      | .tuple [] => K ⟨putL st.tm o.dst undefL, st.g⟩
      | _ => false
theorem stepB_sound {E : CallB} {C : CallSem} (hE : AgreesB E C) {ops : Array Oper} {o : Oper} {st : LSt} {K : LSt → Bool} (h : stepB P E ops o st K = true) : stepL P C ops o st fun st => K st = true := by
  unfold stepB at h
  unfold stepL
  split at h
  · rename_i hg; simp only [hg]; exact opB_sound hE h
  · rename_i j want hg
    simp only [hg]
    split at h
    · cases h
    · rename_i d hd
      simp only [hd]
      split at h
      · rename_i hb
        simp only [hb]
        cases want with
        | true => simp only [if_true] at h ⊢; exact opB_sound hE h
        | false => simp only [Bool.false_eq_true, if_false] at h ⊢; exact h
      · rename_i hb
        simp only [hb]
        cases want with
        | true => simp only [if_true] at h ⊢; exact h
        | false => simp only [Bool.false_eq_true, if_false] at h ⊢; exact opB_sound hE h
      · rename_i hb
        simp only [hb]
        exact h
      · cases h

theorem opL_mono {C : CallSem} (hC : ∀ f args g (K K' : LV → LHeap → Prop), (∀ v g, K v g → K' v g) → C f args g K → C f args g K') {tm : Nat → LV} {o : Oper} {K K' : LV → LHeap → Prop} (hk : ∀ v g, K v g → K' v g) (h : opL P C tm o g K) : opL P C tm o g K' := by
  have v1 : ∀ {x : Option LV}, (vK x fun v => K v g) → vK x fun v => K' v g := fun {x} h => by cases x with | none => exact h | some v => exact hk _ _ h
  have g1 : ∀ {x : Option LHeap}, (gK x fun g => K undefL g) → gK x fun g => K' undefL g := fun {x} h => by cases x with | none => exact h | some v => exact hk _ _ h
  have o1 : ∀ {x : Option (LV × LHeap)}, oK x K → oK x K' := fun {x} h => by cases x with | none => exact h | some v => exact hk _ _ h
  unfold opL at h ⊢
  split at h
  all_goals rename_i heq
  all_goals (try simp only [heq])
  any_goals first
    | exact v1 h
    | exact g1 h
    | exact o1 h
    | exact hk _ _ h
    | (cases h; done)
  · cases hz : zeroL P _ with
    | none => rw [hz] at h; exact h
    | some z => rw [hz] at h; exact o1 h
  · unfold nextMapL at h ⊢
    split at h
    · split at h
      · rename_i hr; (try simp only [hr]); exact hk _ _ h
      · rename_i hr
        (try simp only [hr])
        split at h
        · rename_i hm; (try simp only [hm]); exact ⟨h.1, fun e => hk _ _ (h.2.1 e), fun e he hs => hk _ _ (h.2.2 e he hs)⟩
        · exact h.elim
      · exact h.elim
    · exact h.elim
  · split at h
    · rename_i hc; (try simp only [hc]); exact o1 h
    · rename_i hc
      (try simp only [hc])
      unfold callV at h ⊢
      split at h
      · rename_i hf
        (try simp only [hf])
        split at h
        · rename_i hx; (try simp only [hx]); exact hk _ _ h
        · rename_i hx; (try simp only [hx]); exact hC _ _ _ _ _ hk h
      · exact h.elim
    · rename_i hc
      (try simp only [hc])
      split at h
      · rename_i hr
        (try simp only [hr])
        split at h
        · rename_i hm; (try simp only [hm]); exact hC _ _ _ _ _ hk h
        · exact h.elim
      · exact h.elim
def Mono (C : CallSem) : Prop := ∀ f args g (K K' : LV → LHeap → Prop), (∀ v g, K v g → K' v g) → C f args g K → C f args g K'
theorem stepL_mono {C : CallSem} (hC : Mono C) {ops : Array Oper} {o : Oper} {st : LSt} {K K' : LSt → Prop} (hk : ∀ st, K st → K' st) (h : stepL P C ops o st K) : stepL P C ops o st K' := by
  unfold stepL at h ⊢
  split at h
  · rename_i hg; (try simp only [hg]); exact opL_mono hC (fun _ _ => hk _) h
  · rename_i j want hg
    (try simp only [hg])
    split at h
    · exact h.elim
    · rename_i d hd
      (try simp only [hd])
      split at h
      · rename_i hb
        (try simp only [hb])
        cases want with
        | true => simp only [if_true] at h ⊢; exact opL_mono hC (fun _ _ => hk _) h
        | false => simp only [Bool.false_eq_true, if_false] at h ⊢; exact hk _ h
      · rename_i hb
        (try simp only [hb])
        cases want with
        | true => simp only [if_true] at h ⊢; exact hk _ h
        | false => simp only [Bool.false_eq_true, if_false] at h ⊢; exact opL_mono hC (fun _ _ => hk _) h
      · rename_i hb
        (try simp only [hb])
        exact hk _ h
      · exact h.elim

def runB (P : Program) (E : CallB) (ops : Array Oper) : List Oper → LSt → (LSt → Bool) → Bool
  | [], st, K => K st
  | o :: rest, st, K => stepB P E ops o st fun st' => runB P E ops rest st' K
theorem runB_sound {E : CallB} {C : CallSem} (hE : AgreesB E C) (hC : Mono C) {ops : Array Oper} {K : LSt → Bool} : ∀ (l : List Oper) (st : LSt), runB P E ops l st K = true → runL P C ops l st fun st => K st = true
  | [], _, h => h
  | _ :: rest, _, h => stepL_mono hC (fun st' h' => runB_sound hE hC rest st' h') (stepB_sound hE h)

/-! A region that draws its order. -/
mutual
def LV.eqb : LV → LV → Bool
  | .bool a, .bool b => a == b
  | .int k n, .int l m => decide (k = l) && decide (n = m)
  | .str s, .str t => decide (s = t)
  | .ptr a i, .ptr b j => Nat.beq a b && Nat.beq i j
  | .nilp, .nilp => true
  | .slice a i l c, .slice b j m d => Nat.beq a b && Nat.beq i j && Nat.beq l m && decide (c = d)
  | .nils, .nils => true
  | .map a, .map b => Nat.beq a b
  | .nilm, .nilm => true
  | .nilf, .nilf => true
  | .nili, .nili => true
  | .iface t v, .iface u w => Nat.beq t u && v.eqb w
  | .agg cs, .agg ds => eqbs cs ds
  | .tuple cs, .tuple ds => eqbs cs ds
  | _, _ => false
def eqbs : List LV → List LV → Bool
  | [], [] => true
  | v :: vs, w :: ws => v.eqb w && eqbs vs ws
  | _, _ => false
end
mutual
theorem LV.eqb_eq : (v w : LV) → v.eqb w = true → v = w
  | .bool a, .bool b, h => by simp [LV.eqb] at h; rw [h]
  | .int k n, .int l m, h => by simp [LV.eqb] at h; rw [h.1, h.2]
  | .str s, .str t, h => by simp [LV.eqb] at h; rw [h]
  | .ptr a i, .ptr b j, h => by simp [LV.eqb] at h; rw [h.1, h.2]
  | .nilp, .nilp, _ => rfl
  | .slice a i l c, .slice b j m d, h => by simp [LV.eqb] at h; rw [h.1.1.1, h.1.1.2, h.1.2, h.2]
  | .nils, .nils, _ => rfl
  | .map a, .map b, h => by simp [LV.eqb] at h; rw [h]
  | .nilm, .nilm, _ => rfl
  | .nilf, .nilf, _ => rfl
  | .nili, .nili, _ => rfl
  | .iface t v, .iface u w, h => by
    simp only [LV.eqb, Bool.and_eq_true] at h
    rw [Nat.eq_of_beq_eq_true h.1, v.eqb_eq w h.2]
  | .agg cs, .agg ds, h => by rw [eqbs_eq cs ds (by simpa only [LV.eqb] using h)]
  | .tuple cs, .tuple ds, h => by rw [eqbs_eq cs ds (by simpa only [LV.eqb] using h)]
theorem eqbs_eq : (v w : List LV) → eqbs v w = true → v = w
  | [], [], _ => rfl
  | v :: vs, w :: ws, h => by
    simp only [eqbs, Bool.and_eq_true] at h
    rw [v.eqb_eq w h.1, eqbs_eq vs ws h.2]
end
def readB (P : Program) (g : LHeap) (h : Held) : Bool :=
  match lightV P h.tm h.o.op g with
  | some v => v.eqb h.v
  | none => false
def heldB (P : Program) (ms : List Nat) (j : Nat) (g : LHeap) (D : List Held) : Bool := D.all fun h => !(conc ms h.i j) || readB P g h
theorem heldB_sound {ms : List Nat} {j : Nat} : ∀ {D : List Held}, heldB P ms j g D = true → heldOK P ms j g D
  | [], _ => trivial
  | h :: D, hh => by
    simp only [heldB, List.all_cons, Bool.and_eq_true, Bool.or_eq_true, Bool.not_eq_true'] at hh
    refine ⟨fun e => ?_, heldB_sound hh.2⟩
    rcases hh.1 with h1 | h1
    · rw [h1] at e; cases e
    · unfold readB at h1
      split at h1
      · rename_i v hv; rw [hv, LV.eqb_eq _ _ h1]
      · cases h1
def vB (o : Option LV) (K : LV → Bool) : Bool :=
  match o with
  | some v => K v
  | none => false
theorem vB_vK {o : Option LV} {K : LV → Bool} (h : vB o K = true) : vK o fun v => K v = true := by
  cases o with
  | none => cases h
  | some v => exact h
def lightB (P : Program) (ops : Array Oper) (i : Nat) (o : Oper) (reads : Bool) (D : List Held) (st : LSt) (K : List Held → LSt → Bool) : Bool :=
  match o.guard with
  | none => vB (lightV P st.tm o.op st.g) fun v => K (if reads then ⟨i, o, st.tm, v⟩ :: D else D) ⟨putL st.tm o.dst v, st.g⟩
  | some (j, want) =>
    match (ops[j]?).bind (·.dst) with
    | none => false
    | some d =>
      match st.tm d with
      | .bool true => if want then vB (lightV P (putL st.tm (some d) (.bool true)) o.op st.g) fun v => K (if reads then ⟨i, o, putL st.tm (some d) (.bool true), v⟩ :: D else D) ⟨putL (putL st.tm (some d) (.bool true)) o.dst v, st.g⟩
        else K D ⟨putL (putL st.tm (some d) (.bool true)) o.dst undefL, st.g⟩
      | .bool false => if want then K D ⟨putL (putL st.tm (some d) (.bool false)) o.dst undefL, st.g⟩
        else vB (lightV P (putL st.tm (some d) (.bool false)) o.op st.g) fun v => K (if reads then ⟨i, o, putL st.tm (some d) (.bool false), v⟩ :: D else D) ⟨putL (putL st.tm (some d) (.bool false)) o.dst v, st.g⟩
      | .tuple [] => K D ⟨putL st.tm o.dst undefL, st.g⟩
      | _ => false
theorem vK_mono {o : Option LV} {K K' : LV → Prop} (hk : ∀ v, K v → K' v) (h : vK o K) : vK o K' := by
  cases o with
  | none => exact h
  | some v => exact hk _ h
theorem lightB_sound {ops : Array Oper} {i : Nat} {o : Oper} {reads : Bool} {D : List Held} {st : LSt} {K : List Held → LSt → Bool} {K' : List Held → LSt → Prop} (hk : ∀ D st, K D st = true → K' D st) (h : lightB P ops i o reads D st K = true) : lightStep P ops i o reads D st K' := by
  unfold lightB at h
  unfold lightStep
  split at h
  · rename_i hg; simp only [hg]; exact vK_mono (fun _ => hk _ _) (vB_vK h)
  · rename_i j want hg
    simp only [hg]
    split at h
    · cases h
    · rename_i d hd
      simp only [hd]
      split at h
      · rename_i hb
        simp only [hb]
        cases want with
        | true => simp only [if_true] at h ⊢; exact vK_mono (fun _ => hk _ _) (vB_vK h)
        | false => simp only [Bool.false_eq_true, if_false] at h ⊢; exact hk _ _ h
      · rename_i hb
        simp only [hb]
        cases want with
        | true => simp only [if_true] at h ⊢; exact hk _ _ h
        | false => simp only [Bool.false_eq_true, if_false] at h ⊢; exact vK_mono (fun _ => hk _ _) (vB_vK h)
      · rename_i hb
        simp only [hb]
        exact hk _ _ h
      · cases h
def allB : List Nat → (Nat → Bool) → Bool
  | [], _ => true
  | i :: is, f => f i && allB is f
theorem allB_sound {f : Nat → Bool} {f' : Nat → Prop} (hf : ∀ i, f i = true → f' i) : ∀ (l : List Nat), allB l f = true → allL l f'
  | [], _ => trivial
  | i :: is, h => by
    simp only [allB, Bool.and_eq_true] at h
    exact ⟨hf i h.1, allB_sound hf is h.2⟩
def drawB (P : Program) (E : CallB) (ops : Array Oper) (ms : List Nat) : Nat → Array Bool → List Held → LSt → (LSt → Bool) → Bool
  | 0, listed, _, st, K => match Region.ready .any ops listed with
    | [] => K st
    | _ => false
  | n + 1, listed, D, st, K =>
    match Region.ready .any ops listed with
    | [] => K st
    | r :: rs =>
      match pickL1 P ops ms listed (r :: rs) with
      | some (i, o, reads) => lightB P ops i o reads D st fun D' st' => drawB P E ops ms n (listed.setIfInBounds i true) D' st' K
      | none => allB (r :: rs) fun i =>
        match ops[i]? with
        | some o => match kindO P o.op with
          | some _ => false
          | none => stepB P E ops o st fun st' => heldB P ms i st'.g D && drawB P E ops ms n (listed.setIfInBounds i true) D st' K
        | none => false
theorem drawB_sound {E : CallB} {C : CallSem} (hE : AgreesB E C) (hC : Mono C) {ops : Array Oper} {ms : List Nat} {K : LSt → Bool} : ∀ (n : Nat) (listed : Array Bool) (D : List Held) (st : LSt), drawB P E ops ms n listed D st K = true →
    drawL P C ops ms n listed D st fun st => K st = true := by
  intro n
  induction n with
  | zero =>
    intro listed D st h
    unfold drawB at h
    unfold drawL
    split at h
    · rename_i hr; rw [hr]; exact h
    · cases h
  | succ n ih =>
    intro listed D st h
    unfold drawB at h
    unfold drawL
    split at h
    · rename_i hr; rw [hr]; exact h
    · rename_i r rs hr
      rw [hr]
      simp only []
      split at h
      · rename_i i o reads hp
        rw [hp]
        exact lightB_sound (fun D' st' h' => ih _ _ _ h') h
      · rename_i hp
        rw [hp]
        refine allB_sound (fun i hi => ?_) _ h
        split at hi
        · rename_i o ho
          simp only [ho]
          split at hi
          · cases hi
          · rename_i hk
            simp only [hk]
            refine stepL_mono hC (fun st' h' => ?_) (stepB_sound hE hi)
            simp only [Bool.and_eq_true] at h'
            exact ⟨heldB_sound h'.1, ih _ _ _ h'.2⟩
        · cases hi

def thenB (k : LSt → Bool) (K : LEx → LSt → Bool) : LEx → LSt → Bool := fun e st =>
  match e with
  | .normal => k st
  | e => K e st
def exitB (id : Nat) (K : LEx → LSt → Bool) : LEx → LSt → Bool := fun e st =>
  match e with
  | .exit id' => if Nat.beq id' id then K .normal st else K (.exit id') st
  | e => K e st
def codeStep (P : Program) (E : CallB) (rec : Code → LSt → (LEx → LSt → Bool) → Bool) (c : Code) (st : LSt) (K : LEx → LSt → Bool) : Bool :=
  match c with
  | .skip => K .normal st
  | .region _ ops true => drawB P E ops (masks ops.toList []) ops.size (Array.replicate ops.size false) [] st (K .normal)
  | .region _ ops false => runB P E ops ops.toList st (K .normal)
  | .seq a b => rec a st (thenB (fun st' => rec b st' K) K)
  | .cond c a b => match evL st.tm c with
    | .bool true => rec a st K
    | .bool false => rec b st K
    | _ => false
  | .block id b => rec b st (exitB id K)
  | .loop b => rec b st (thenB (fun st' => rec (.loop b) st' K) K)
  | .exit id => K (.exit id) st
  | .ret => K .ret st
  | .scope b => rec b st K
  | .label _ => K .normal st
  | _ => false
def codeB (P : Program) (E : CallB) : Nat → Code → LSt → (LEx → LSt → Bool) → Bool
  | 0 => fun _ _ _ => false
  | n + 1 => codeStep P E (codeB P E n)
theorem codeB_succ {E : CallB} (n : Nat) (c : Code) (st : LSt) (K : LEx → LSt → Bool) : codeB P E (n + 1) c st K = codeStep P E (codeB P E n) c st K := rfl

theorem loopL_mono {body : LSt → (LEx → LSt → Prop) → Prop} (hb : ∀ st (K K' : LEx → LSt → Prop), (∀ e st, K e st → K' e st) → body st K → body st K') {st : LSt} {K K' : LEx → LSt → Prop} (hk : ∀ e st, K e st → K' e st) (h : loopL body st K) : loopL body st K' := by
  obtain ⟨I, μ, h1, h2⟩ := h
  refine ⟨I, μ, h1, fun s hs => hb s _ _ (fun e s' h' => ?_) (h2 s hs)⟩
  cases e with
  | normal => exact h'
  | _ => exact hk _ _ h'
theorem runL_mono {C : CallSem} (hC : Mono C) {ops : Array Oper} {K K' : LSt → Prop} (hk : ∀ st, K st → K' st) : ∀ (l : List Oper) (st : LSt), runL P C ops l st K → runL P C ops l st K'
  | [], _, h => hk _ h
  | _ :: rest, _, h => stepL_mono hC (fun st' h' => runL_mono hC hk rest st' h') h
theorem allL_mono {f f' : Nat → Prop} (hf : ∀ i, f i → f' i) : ∀ (l : List Nat), allL l f → allL l f'
  | [], _ => trivial
  | i :: is, h => ⟨hf i h.1, allL_mono hf is h.2⟩
theorem lightStep_mono {ops : Array Oper} {i : Nat} {o : Oper} {reads : Bool} {D : List Held} {st : LSt} {K K' : List Held → LSt → Prop} (hk : ∀ D st, K D st → K' D st) (h : lightStep P ops i o reads D st K) : lightStep P ops i o reads D st K' := by
  unfold lightStep at h ⊢
  split at h
  · rename_i hg; (try simp only [hg]); exact vK_mono (fun _ => hk _ _) h
  · rename_i j want hg
    (try simp only [hg])
    split at h
    · exact h.elim
    · rename_i d hd
      (try simp only [hd])
      split at h
      · rename_i hb
        (try simp only [hb])
        cases want with
        | true => simp only [if_true] at h ⊢; exact vK_mono (fun _ => hk _ _) h
        | false => simp only [Bool.false_eq_true, if_false] at h ⊢; exact hk _ _ h
      · rename_i hb
        (try simp only [hb])
        cases want with
        | true => simp only [if_true] at h ⊢; exact hk _ _ h
        | false => simp only [Bool.false_eq_true, if_false] at h ⊢; exact vK_mono (fun _ => hk _ _) h
      · rename_i hb
        (try simp only [hb])
        exact hk _ _ h
      · exact h.elim
theorem drawL_mono {C : CallSem} (hC : Mono C) {ops : Array Oper} {ms : List Nat} {K K' : LSt → Prop} (hk : ∀ st, K st → K' st) : ∀ (n : Nat) (listed : Array Bool) (D : List Held) (st : LSt), drawL P C ops ms n listed D st K → drawL P C ops ms n listed D st K' := by
  intro n
  induction n with
  | zero =>
    intro listed D st h
    unfold drawL at h ⊢
    split at h
    · rename_i hr; (try rw [hr]); exact hk _ h
    · exact h.elim
  | succ n ih =>
    intro listed D st h
    unfold drawL at h ⊢
    split at h
    · rename_i hr; (try rw [hr]); exact hk _ h
    · rename_i r rs hr
      (try rw [hr])
      (try simp only [])
      split at h
      · rename_i i o reads hp
        (try rw [hp])
        exact lightStep_mono (fun D' st' h' => ih _ _ _ h') h
      · rename_i hp
        (try rw [hp])
        refine allL_mono (fun i hi => ?_) _ h
        split at hi
        · rename_i o ho
          (try simp only [ho])
          split at hi
          · exact hi.elim
          · rename_i hk'
            (try simp only [hk'])
            exact stepL_mono hC (fun st' h' => ⟨h'.1, ih _ _ _ h'.2⟩) hi
        · exact hi.elim
theorem codeL_mono {C : CallSem} (hC : Mono C) : ∀ (c : Code) (st : LSt) (K K' : LEx → LSt → Prop), (∀ e st, K e st → K' e st) → codeL P C c st K → codeL P C c st K' := by
  intro c
  induction c with
  | region id ops d =>
    intro st K K' hk h
    cases d with
    | true => exact drawL_mono hC (fun st => hk _ st) _ _ _ _ h
    | false => exact runL_mono hC (fun st => hk _ st) _ _ h
  | seq a b iha ihb =>
    intro st K K' hk h
    refine iha st _ _ (fun e st' h' => ?_) h
    cases e with
    | normal => exact ihb st' _ _ hk h'
    | _ => exact hk _ _ h'
  | cond c a b iha ihb =>
    intro st K K' hk h
    simp only [codeL] at h ⊢
    split at h
    · rename_i hc; (try simp only [hc]); exact iha st _ _ hk h
    · rename_i hc; (try simp only [hc]); exact ihb st _ _ hk h
    · exact h.elim
  | block id b ih =>
    intro st K K' hk h
    refine ih st _ _ (fun e st' h' => ?_) h
    cases e with
    | exit id' =>
      simp only [exitL] at h' ⊢
      split at h'
      · rename_i hb; rw [if_pos hb]; exact hk _ _ h'
      · rename_i hb; rw [if_neg hb]; exact hk _ _ h'
    | _ => exact hk _ _ h'
  | loop b ih => intro st K K' hk h; exact loopL_mono ih hk h
  | skip => intro st K K' hk h; exact hk _ _ h
  | exit id => intro st K K' hk h; exact hk _ _ h
  | ret => intro st K K' hk h; exact hk _ _ h
  | scope b ih => intro st K K' hk h; exact ih st _ _ hk h
  | label l => intro st K K' hk h; exact hk _ _ h
  | _ => intro st K K' hk h; exact h.elim

theorem codeB_sound {E : CallB} {C : CallSem} (hE : AgreesB E C) (hC : Mono C) : ∀ (c : Code) (n : Nat) (st : LSt) (K : LEx → LSt → Bool), codeB P E n c st K = true → codeL P C c st fun e st => K e st = true := by
  intro c
  induction c with
  | seq a b iha ihb =>
    intro n st K h
    cases n with
    | zero => cases h
    | succ n =>
      refine codeL_mono hC a st _ _ (fun e st' h' => ?_) (iha n st _ h)
      cases e with
      | normal => exact ihb n st' K h'
      | _ => exact h'
  | cond c a b iha ihb =>
    intro n st K h
    cases n with
    | zero => cases h
    | succ n =>
      rw [codeB_succ] at h; unfold codeStep at h
      simp only [] at h
      simp only [codeL]
      split at h
      · rename_i hc; simp only [hc]; exact iha n st K h
      · rename_i hc; simp only [hc]; exact ihb n st K h
      · cases h
  | block id b ih =>
    intro n st K h
    cases n with
    | zero => cases h
    | succ n =>
      refine codeL_mono hC b st _ _ (fun e st' h' => ?_) (ih n st _ h)
      cases e with
      | exit id' =>
        simp only [exitB, exitL] at h' ⊢
        split at h'
        · rename_i hb; rw [if_pos hb]; exact h'
        · rename_i hb; rw [if_neg hb]; exact h'
      | _ => exact h'
  | loop b ih =>
    intro n st K h
    let T : LSt → Nat → Prop := fun s k => codeB P E k (.loop b) s K = true
    have hmin : ∀ s k, T s k → ∃ m, T s m ∧ ∀ j, T s j → m ≤ j := by
      intro s k
      induction k using Nat.strongRecOn with
      | _ k ihk =>
        intro hk
        by_cases hx : ∃ j, j < k ∧ T s j
        · obtain ⟨j, hj, hT⟩ := hx; exact ihk j hj hT
        · exact ⟨k, hk, fun j hj => Nat.le_of_not_lt fun hlt => hx ⟨j, hlt, hj⟩⟩
    refine ⟨fun s => ∃ k, T s k, fun s => open Classical in if hs : ∃ m, T s m ∧ ∀ j, T s j → m ≤ j then Classical.choose hs else 0, ⟨n, h⟩, ?_⟩
    rintro s ⟨k, hk⟩
    have hs := hmin s k hk
    have hch := Classical.choose_spec hs
    generalize hm : Classical.choose hs = m at hch
    cases m with
    | zero => cases hch.1
    | succ m =>
      have h1 := hch.1
      refine codeL_mono hC b s _ _ (fun e s1 h' => ?_) (ih m s _ h1)
      cases e with
      | normal =>
        have hT1 : T s1 m := h'
        refine ⟨⟨m, hT1⟩, ?_⟩
        have hs1 := hmin s1 m hT1
        simp only []
        rw [dif_pos hs, dif_pos hs1, hm]
        have := (Classical.choose_spec hs1).2 m hT1
        omega
      | _ => exact h'
  | region id ops d =>
    intro n st K h
    cases n with
    | zero => cases h
    | succ n =>
      cases d with
      | true => exact drawB_sound hE hC _ _ _ _ h
      | false => exact runB_sound hE hC _ _ h
  | skip => intro n st K h; cases n with | zero => cases h | succ n => exact h
  | exit id => intro n st K h; cases n with | zero => cases h | succ n => exact h
  | ret => intro n st K h; cases n with | zero => cases h | succ n => exact h
  | scope b ih => intro n st K h; cases n with | zero => cases h | succ n => exact ih n st _ h
  | label l => intro n st K h; cases n with | zero => cases h | succ n => exact h
  | _ => intro n st K h; cases n <;> cases h

def endB (P : Program) (fn : Func) (K : LV → LHeap → Bool) : LEx → LSt → Bool := fun e st =>
  match e with
  | .exit _ => false
  | _ => match resL P st.tm st.g fn.results.toList with
    | some vs => K (oneL vs) st.g
    | none => false
/-- A call, in its time: functions that are listed are known to be fine; of others, what is not fine is taken out. -/
def callB (P : Program) (l : List FuncId) : Nat → CallB
  | 0, _, _, _, _ => false
  | n + 1, f, args, g, K =>
    match P.funcs[f]? with
    | some fn => match fn.body with
      | some c => Nat.ble args.length fn.ntmps &&
        match l.any (Nat.beq f) with
        | true => codeB P (callB P l n) n c ⟨startL args, g⟩ (endB P fn K)
        | false => !(fn.name == "runtime.NumGoroutine") && codeB P (callB P l n) n (pruneC fn.ntmps c) ⟨startL args, g⟩ (endB P fn K)
      | none => false
    | none => false
def fineF (P : Program) (f : FuncId) : Bool :=
  match P.funcs[f]? with
  | some fn => match fn.body with
    | some c => fineC fn.ntmps c && !(fn.name == "runtime.NumGoroutine")
    | none => false
  | none => false
theorem ok_mono : Mono (Ok P) := fun _ _ _ _ _ hk h => h.mono hk
theorem endB_endL {fn : Func} {K : LV → LHeap → Bool} (e : LEx) (st : LSt) (h' : endB P fn K e st = true) : endL P fn (fun v g => K v g = true) e st := by
  cases e with
  | exit id => cases h'
  | normal =>
    simp only [endB, endL] at h' ⊢
    split at h'
    · rename_i hr; simp only [hr]; exact h'
    · cases h'
  | ret =>
    simp only [endB, endL] at h' ⊢
    split at h'
    · rename_i hr; simp only [hr]; exact h'
    · cases h'
theorem callB_sound (hm : P.follows .mixedOrders = true) {l : List FuncId} (hl : l.all (fineF P) = true) : ∀ (n : Nat), AgreesB (callB P l n) (Ok P) := by
  intro n
  induction n with
  | zero => intro f args g K h; cases h
  | succ n ih =>
    intro f args g K h
    unfold callB at h
    split at h
    · rename_i fn hfn
      split at h
      · rename_i c hc
        simp only [Bool.and_eq_true] at h
        obtain ⟨hlen, h⟩ := h
        split at h
        · rename_i hany
          obtain ⟨f', hf1, hf2⟩ := List.any_eq_true.1 hany
          have hf3 := Nat.eq_of_beq_eq_true hf2
          subst hf3
          have hfine := List.all_eq_true.1 hl f hf1
          unfold fineF at hfine
          simp only [hfn, hc, Bool.and_eq_true, Bool.not_eq_true'] at hfine
          exact ok_of_code hm hfn hc hfine.2 hfine.1 (Nat.le_of_ble_eq_true hlen) (codeL_mono ok_mono c _ _ _ endB_endL (codeB_sound ih ok_mono c n _ _ h))
        · simp only [Bool.and_eq_true, Bool.not_eq_true'] at h
          exact ok_of_prune hm hfn hc h.1 (Nat.le_of_ble_eq_true hlen) (codeL_mono ok_mono _ _ _ _ endB_endL (codeB_sound ih ok_mono _ n _ _ h.2))
      · cases h
    · cases h

end Go.Lm
