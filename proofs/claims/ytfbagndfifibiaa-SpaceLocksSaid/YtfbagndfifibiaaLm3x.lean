/-
  The logical machine: a deep reading of a program over numbered objects, proved sound once; parts mR to mW.
-/
import Derived.Test.YtfbagndfifibiaaLm2x
import Derived.ProofKit
import Derived.OpenShut
import Derived.SizedLaws
set_option linter.all false
/-
  The logical machine, part R: a claim's call is entered; a call that only reads what there is leaves it as it was.
-/
namespace Go.Lm

variable {P : Program} {W : World} {keep : Nat → Prop} {ρ : Ren} {g : LHeap} {w : World}

def emp (n : Nat) : LHeap := { get := fun _ => none, next := n }

/-- Into the kit's own contract. -/
theorem Ok.enter {f : FuncId} {args : List LV} {K : LV → LHeap → Prop} (h : Ok P f args g K) (hr : Rel w (fun b => b < w.heap.size) ρ g w) (ha : oks ρ g.next args) (hK : ∀ v g', K v g' → v = .bool true) :
    Calls P f (toVs ρ args).toArray w fun e w' => e = .returned (.bool true) ∧ RowKit.Below w.heap.size w w' :=
  (h.2 w _ ρ w hr ha).mono fun e w' ⟨v, g', ρ', h1, h2, h3⟩ => by
    have := hK _ _ h3
    subst this
    exact ⟨h1, ⟨h2.rel.os, h2.rel.tape, h2.rel.output, h2.rel.size, fun k hk => (h2.rel.kept k hk).2⟩⟩

theorem rel_emp (w : World) (ρ : Ren) (n : Nat) : Rel w (fun b => b < w.heap.size) ρ (emp n) w :=
  ⟨rfl, rfl, rfl, Nat.le_refl _, fun _ hb => ⟨hb, rfl⟩, fun i o h => (by simp [emp] at h), fun i j o p h => (by simp [emp] at h), fun i o h => (by simp [emp] at h)⟩

/-- A heap of which only some objects are looked at, and those only read. -/
def LObj.asRo : LObj → LObj
  | .cells vs _ => .cells vs .ro
  | .map es c _ => .map es c .ro
  | o => o
structure Reads (r g : LHeap) : Prop where
  next : r.next = g.next
  get : ∀ i o, r.get i = some o → o.mine = false ∧ ∃ o', g.get i = some o' ∧ o = o'.asRo
/-- g, with what was made behind it. -/
def LHeap.over (g g0 : LHeap) : LHeap :=
  { get := fun i => if i < g.next then g.get i else match g0.get i with | some o => if o.mine then some o else none | none => none, next := g0.next }

theorem ObjR.asRo {n i : Nat} {o : LObj} (h : ObjR ρ n w i o) (hm : o.asRo.mine = false) : ObjR ρ n w i o.asRo := by
  cases o with
  | cells vs own =>
    obtain ⟨h1, h2, C, ty, fz, h3, h4, h5, _, _⟩ := h
    exact ⟨h1, h2, C, ty, fz, h3, h4, h5, fun e => (e rfl).elim, fun e => by cases e⟩
  | map es c own => exact h
  | strIter s p => cases hm
  | mapIter a b c d => cases hm
  | loop r => cases hm

theorem rel_reads {r : LHeap} (hr : Reads r g) (h : Rel W keep ρ g w) : Rel w (fun b => b < w.heap.size) ρ r w := by
  refine ⟨rfl, rfl, rfl, Nat.le_refl _, fun _ hb => ⟨hb, rfl⟩, fun i o hi => ?_, fun i j o p hi hj _ hm => ?_, fun i o hi hm => ?_⟩
  · obtain ⟨h1, o', h2, rfl⟩ := hr.get i o hi
    obtain ⟨h3, h4⟩ := h.obj i o' h2
    rw [hr.next]
    exact ⟨h3, h4.asRo h1⟩
  · rw [(hr.get i o hi).1, (hr.get j p hj).1] at hm
    simp at hm
  · rw [(hr.get i o hi).1] at hm
    cases hm

theorem rel_over {ρ' : Ren} {g0 : LHeap} {w' : World} (h : Rel W keep ρ g w) (h' : Rel w (fun b => b < w.heap.size) ρ' g0 w') (hx : Ren.Ext g.next ρ ρ') (hn : g.next ≤ g0.next) : Rel W keep ρ' (g.over g0) w' := by
  have split : ∀ i o, (g.over g0).get i = some o → (i < g.next ∧ g.get i = some o) ∨ (g.next ≤ i ∧ g0.get i = some o ∧ o.mine = true) := by
    intro i o hi
    simp only [LHeap.over] at hi
    split at hi
    · exact .inl ⟨by assumption, hi⟩
    · split at hi
      · split at hi
        · cases hi; exact .inr ⟨by omega, by assumption, by assumption⟩
        · cases hi
      · cases hi
  have low : ∀ i o, i < g.next → g.get i = some o → ρ'.blk i < w.heap.size := fun i o hi ho => by
    rw [(hx i hi).1]; exact (h.obj i o ho).2.lt
  have high : ∀ i o, g0.get i = some o → o.mine = true → w.heap.size ≤ ρ'.blk i := fun i o ho hm => by
    have := h'.mine i o ho hm
    omega
  refine ⟨h'.os.trans h.os, h'.tape.trans h.tape, h'.output.trans h.output, Nat.le_trans h.size h'.size, fun b hb => ?_, fun i o hi => ?_, fun i j o p hi hj hij hm => ?_, fun i o hi hm => ?_⟩
  · obtain ⟨h1, h2⟩ := h.kept b hb
    exact ⟨h1, (h'.kept b (Nat.lt_of_lt_of_le h1 h.size)).2.trans h2⟩
  · rcases split i o hi with ⟨h1, h2⟩ | ⟨h1, h2, h3⟩
    · refine ⟨Nat.lt_of_lt_of_le h1 hn, ?_⟩
      have h4 := (h.obj i o h2).2
      have h5 : ObjR ρ g.next w' i o := h4.heap (h'.kept _ h4.lt).2
      exact h5.ext h1 hx hn
    · exact h'.obj i o h2
  · rcases split i o hi with ⟨h1, h2⟩ | ⟨h1, h2, h3⟩
    · rcases split j p hj with ⟨k1, k2⟩ | ⟨k1, k2, k3⟩
      · rw [(hx i h1).1, (hx j k1).1]; exact h.inj i j o p h2 k2 hij hm
      · have := low i o h1 h2; have := high j p k2 k3; omega
    · rcases split j p hj with ⟨k1, k2⟩ | ⟨k1, k2, k3⟩
      · have := low j p k1 k2; have := high i o h2 h3; omega
      · exact h'.inj i j o p h2 k2 hij hm
  · rcases split i o hi with ⟨h1, h2⟩ | ⟨h1, h2, h3⟩
    · rw [(hx i h1).1]; exact h.mine i o h2 hm
    · intro hk
      have := (h.kept _ hk).1
      have := high i o h2 h3
      have := h.size
      omega

/-- A call that only reads what there is. -/
theorem Ok.frame {f : FuncId} {args : List LV} {r : LHeap} {K : LV → LHeap → Prop} (h : Ok P f args r K) (hr : Reads r g) : Ok P f args g fun v g' => ∃ g0, K v g0 ∧ g' = g.over g0 := by
  refine ⟨h.1, fun W keep ρ w hrel ha => ?_⟩
  refine (h.2 w _ ρ w (rel_reads hr hrel) (by rw [hr.next]; exact ha)).mono ?_
  rintro e w' ⟨v, g0, ρ', h1, h2, h3⟩
  have hx := h2.ext
  rw [hr.next] at hx
  have hn := h2.le
  rw [hr.next] at hn
  exact ⟨v, g.over g0, ρ', h1, ⟨hx, rel_over hrel h2.rel hx hn, h2.ok, hn⟩, g0, h3, rfl⟩

/-! ### Values that name no object -/
mutual
def LV.flat : LV → Bool
  | .ptr _ _ | .slice _ _ _ _ | .tail _ _ _ _ _ | .map _ | .yield _ => false
  | .func _ first caps => flats first && flats caps
  | .iface _ v => v.flat
  | .agg cs => flats cs
  | .tuple vs => flats vs
  | _ => true
def flats : List LV → Bool
  | [] => true
  | v :: vs => v.flat && flats vs
end
mutual
theorem LV.flat_toV {ρ ρ' : Ren} : (v : LV) → v.flat = true → v.toV ρ' = v.toV ρ
  | .ptr a _, hl => by simp [LV.flat] at hl
  | .slice _ _ _ _, hl => by simp [LV.flat] at hl
  | .tail _ _ _ _ _, hl => by simp [LV.flat] at hl
  | .map a, hl => by simp [LV.flat] at hl
  | .yield a, hl => by simp [LV.flat] at hl
  | .func _ first caps, hl => by
    simp only [LV.flat, Bool.and_eq_true] at hl
    simp only [LV.toV, flats_toV first hl.1 (ρ := ρ) (ρ' := ρ'), flats_toV caps hl.2 (ρ := ρ) (ρ' := ρ')]
  | .iface _ v, hl => by simp only [LV.toV, v.flat_toV (ρ := ρ) (ρ' := ρ') (by simpa only [LV.flat] using hl)]
  | .agg cs, hl => by simp only [LV.toV, flats_toV (ρ := ρ) (ρ' := ρ') cs (by simpa only [LV.flat] using hl)]
  | .tuple vs, hl => by simp only [LV.toV, flats_toV (ρ := ρ) (ρ' := ρ') vs (by simpa only [LV.flat] using hl)]
  | .bool _, _ | .int _ _, _ | .str _, _ | .nilp, _ | .nils, _ | .nilm, _ | .nilf, _ | .nili, _ => by simp only [LV.toV]
theorem flats_toV {ρ ρ' : Ren} : (l : List LV) → flats l = true → toVs ρ' l = toVs ρ l
  | [], _ => rfl
  | v :: vs, hl => by
    simp only [flats, Bool.and_eq_true] at hl
    simp only [toVs, v.flat_toV (ρ := ρ) (ρ' := ρ') hl.1, flats_toV (ρ := ρ) (ρ' := ρ') vs hl.2]
end
mutual
theorem LV.flat_ok {ρ : Ren} {n : Nat} : (v : LV) → v.flat = true → v.ok ρ n
  | .ptr a _, hl => by simp [LV.flat] at hl
  | .slice _ _ _ _, hl => by simp [LV.flat] at hl
  | .tail _ _ _ _ _, hl => by simp [LV.flat] at hl
  | .map a, hl => by simp [LV.flat] at hl
  | .yield a, hl => by simp [LV.flat] at hl
  | .func _ first caps, hl => by
    simp only [LV.flat, Bool.and_eq_true] at hl
    exact ⟨flats_ok first hl.1, flats_ok caps hl.2⟩
  | .iface _ v, hl => by simp only [LV.ok]; exact v.flat_ok (by simpa only [LV.flat] using hl)
  | .agg cs, hl => by simp only [LV.ok]; exact flats_ok cs (by simpa only [LV.flat] using hl)
  | .tuple vs, hl => by simp only [LV.ok]; exact flats_ok vs (by simpa only [LV.flat] using hl)
  | .bool _, _ | .int _ _, _ | .str _, _ | .nilp, _ | .nils, _ | .nilm, _ | .nilf, _ | .nili, _ => by simp only [LV.ok]
theorem flats_ok {ρ : Ren} {n : Nat} : (l : List LV) → flats l = true → oks ρ n l
  | [], _ => by simp [oks]
  | v :: vs, hl => by
    simp only [flats, Bool.and_eq_true] at hl
    exact ⟨v.flat_ok hl.1, flats_ok vs hl.2⟩
end

/-- A call that is handed no object and gives none back: whatever else there is, it stays. -/
theorem Ok.alone {f : FuncId} {args : List LV} {K : LV → LHeap → Prop} (h : Ok P f args (emp 0) K) (ha : flats args = true) (hv : ∀ v g0, K v g0 → v.flat = true) : Ok P f args g fun v g' => g' = g ∧ ∃ g0, K v g0 := by
  refine ⟨h.1, fun W keep ρ w hrel _ => ?_⟩
  refine (h.2 w _ ρ w (rel_emp w ρ 0) (flats_ok _ ha)).mono ?_
  rintro e w' ⟨v, g0, ρ', h1, h2, h3⟩
  have hf := hv _ _ h3
  refine ⟨v, g, ρ, by rw [h1, LV.flat_toV (ρ := ρ) v hf], ⟨Ren.Ext.refl _ _, ?_, LV.flat_ok v hf, Nat.le_refl _⟩, rfl, g0, h3⟩
  refine ⟨h2.rel.os.trans hrel.os, h2.rel.tape.trans hrel.tape, h2.rel.output.trans hrel.output, Nat.le_trans hrel.size h2.rel.size, fun b hb => ?_, fun i o hi => ?_, hrel.inj, hrel.mine⟩
  · obtain ⟨k1, k2⟩ := hrel.kept b hb
    exact ⟨k1, (h2.rel.kept b (Nat.lt_of_lt_of_le k1 hrel.size)).2.trans k2⟩
  · obtain ⟨k1, k2⟩ := hrel.obj i o hi
    exact ⟨k1, k2.heap (h2.rel.kept _ k2.lt).2⟩

end Go.Lm

/-
  The logical machine, part S: where nothing is left open, what a call does is computed.
-/
namespace Go.Lm

variable {P : Program} {W : World} {keep : Nat → Prop} {ρ : Ren} {g : LHeap} {w : World}

abbrev CallE := FuncId → List LV → LHeap → Option (LV × LHeap)
/-- What is computed is so. -/
def Agrees (E : CallE) (C : CallSem) : Prop := ∀ f args g v g' (K : LV → LHeap → Prop), E f args g = some (v, g') → K v g' → C f args g K

def withG (o : Option LV) (g : LHeap) : Option (LV × LHeap) :=
  match o with
  | some v => some (v, g)
  | none => none
def withU (o : Option LHeap) : Option (LV × LHeap) :=
  match o with
  | some g => some (undefL, g)
  | none => none
theorem withG_vK {o : Option LV} {v : LV} {g' : LHeap} {K : LV → LHeap → Prop} (h : withG o g = some (v, g')) (hK : K v g') : vK o fun v => K v g := by
  cases o with
  | none => cases h
  | some x => cases h; exact hK
theorem withU_gK {o : Option LHeap} {v : LV} {g' : LHeap} {K : LV → LHeap → Prop} (h : withU o = some (v, g')) (hK : K v g') : gK o fun g => K undefL g := by
  cases o with
  | none => cases h
  | some x => cases h; exact hK
theorem oK_of {o : Option (LV × LHeap)} {v : LV} {g' : LHeap} {K : LV → LHeap → Prop} (h : o = some (v, g')) (hK : K v g') : oK o K := by
  subst h; exact hK

def callVE (P : Program) (E : CallE) (f : LV) (args : List LV) (g : LHeap) : Option (LV × LHeap) :=
  match f with
  | .func (.func f) first caps =>
    match extL P f (first ++ args ++ caps) with
    | some v => some (v, g)
    | none => E f (first ++ args ++ caps) g
  | .func (.method name) (.iface t v :: first) _ => match methodL P t name with
    | some f => E f (v :: (first ++ args)) g
    | none => none
  | _ => none
def opE (P : Program) (E : CallE) (tm : Nat → LV) (o : Oper) (g : LHeap) : Option (LV × LHeap) :=
  match o.op with
  | .move x | .assign x => some (evL tm x, g)
  | .pick c a b => withG (pickL (evL tm c) (evL tm a) (evL tm b)) g
  | .alloc t => match zeroL P t with
    | some z => newL z g
    | none => none
  | .box _ x => newL (evL tm x) g
  | .build t parts => withG (buildL P t (parts.toList.map fun p => (p.1, evL tm p.2))) g
  | .buildSlice t len parts => buildSliceL P t len (parts.toList.map fun p => (p.1, evL tm p.2)) g
  | .load t a => withG (loadT P t (evL tm a) g) g
  | .store t a x => withU (storeT P t (evL tm a) (evL tm x) g)
  | .nilCheck x => withG (nilCheckP P (evL tm x)) g
  | .binOp op t x y _ => withG (binL P op t (isConstO x || isConstO y) (evL tm x) (evL tm y)) g
  | .unOp op _ x => withG (unL op (evL tm x)) g
  | .convert s d x => convL P s d (evL tm x) g
  | .makeInterface t x => withG (ifaceL P t (evL tm x)) g
  | .makeFunc fn first caps => some (.func fn (first.toList.map (evL tm)) (caps.toList.map (evL tm)), g)
  | .makeMap _ none => some (.map g.next, g.alloc (.map [] 0 .ex))
  | .makeSlice t l c => makeSliceL P t (evL tm l) (evL tm c) g
  | .slice t x lo hi mx => withG (cutT P t (evL tm x) (lo.map (evL tm)) (hi.map (evL tm)) (mx.map (evL tm)) (limL (evL tm x) g)) g
  | .fieldAddr s x f => withG (fieldAddrT P s f (evL tm x)) g
  | .field s x f => withG (fieldVT P s f (evL tm x)) g
  | .indexAddr t x ix => withG (ixAddrT P t (evL tm x) (evL tm ix)) g
  | .index t x ix => withG (indexT P t (evL tm x) (evL tm ix)) g
  | .lookup t x k ok => withG (lookupL P t (evL tm x) (evL tm k) ok g) g
  | .mapUpdate t m k x | .insert t m k x => withU (mapSetL P t (evL tm m) (evL tm k) (evL tm x) g)
  | .mapEntry t m k => mapEntryL P t (evL tm m) (evL tm k) g
  | .entryStore _ m s x => withU (entryStoreL (evL tm m) (evL tm s) (evL tm x) g)
  | .range t x => rangeL P t (evL tm x) g
  | .next it true => nextStrL (evL tm it) g
  | .entry it => withG (entryL (evL tm it) g) g
  | .typeAssert x _ t ok => withG (assertL P (evL tm x) t ok) g
  | .extract x i => withG (extractL (evL tm x) i) g
  | .call c =>
    match c.callee with
    | .builtin b => builtinL P b c.argTypes.toList (c.args.toList.map (evL tm)) g
    | .value f => callVE P E (evL tm f) (c.args.toList.map (evL tm)) g
    | .invoke r name =>
      match evL tm r with
      | .iface t v => match methodL P t name with
        | some f => E f (v :: c.args.toList.map (evL tm)) g
        | none => none
      | _ => none
  | _ => none

theorem opE_sound {E : CallE} {C : CallSem} (hE : Agrees E C) {tm : Nat → LV} {o : Oper} {v : LV} {g' : LHeap} {K : LV → LHeap → Prop} (h : opE P E tm o g = some (v, g')) (hK : K v g') : opL P C tm o g K := by
  unfold opE at h
  unfold opL
  split at h <;> rename_i heq <;> (try simp only [heq])
  any_goals first
    | (cases h; done)
    | exact withG_vK h hK
    | exact withU_gK h hK
    | exact oK_of h hK
    | (cases h; exact hK)
  · split at h
    · rename_i z hz; rw [hz]; exact oK_of h hK
    · cases h
  · split at h
    · rename_i hc; simp only [hc]; exact oK_of h hK
    · rename_i hc
      simp only [hc]
      unfold callVE at h
      split at h
      · rename_i hf
        simp only [hf, callV]
        split at h
        · rename_i hx; simp only [hx]; cases h; exact hK
        · rename_i hx; simp only [hx]; exact hE _ _ _ _ _ _ h hK
      · rename_i hf
        simp only [hf, callV]
        split at h
        · rename_i hm; simp only [hm]; exact hE _ _ _ _ _ _ h hK
        · cases h
      · cases h
    · rename_i hc
      simp only [hc]
      split at h
      · rename_i hr
        simp only [hr]
        split at h
        · rename_i hm; simp only [hm]; exact hE _ _ _ _ _ _ h hK
        · cases h
      · cases h

/-! ### By answers: whichever way it goes, K holds -/
structure CallB where
  call : FuncId → List LV → LHeap → (LV → LHeap → Bool) → Bool
  round : Nat → List LV → LHeap → (LV → LHeap → Bool) → Bool
instance : CoeFun CallB (fun _ => FuncId → List LV → LHeap → (LV → LHeap → Bool) → Bool) := ⟨CallB.call⟩
structure AgreesB (P : Program) (E : CallB) (C : CallSem) : Prop where
  call : ∀ f args g (K : LV → LHeap → Bool), E f args g K = true → C f args g fun v g' => K v g' = true
  round : ∀ a args g (K : LV → LHeap → Bool), E.round a args g K = true → Round P a args g fun v g' => K v g' = true
def noCall : CallE := fun _ _ _ => none
theorem noCall_agrees (C : CallSem) : Agrees noCall C := fun _ _ _ _ _ _ h => by cases h

def nextMapB (it : LV) (g : LHeap) (K : LV → LHeap → Bool) : Bool :=
  match it with
  | .ptr r 0 => match g.get r with
    | some (.mapIter none _ _ _) => K (.tuple [.bool false]) g
    | some (.mapIter (some m) since seen last) => match g.get m with
      | some (.map es clock _) =>
        !(!seen.isEmpty && !es.isEmpty && es.all (fun e => decide (e.2.2 ≥ last))) &&
        (!((es.filter fun e => !seen.contains e.2.2).filter (fun e => decide (e.2.2 < since))).isEmpty || K (.tuple [.bool false]) g) &&
        es.all fun e => seen.contains e.2.2 || K (.tuple [.bool true, e.1, e.2.1]) (g.set r (.mapIter (some m) since (seen ++ [e.2.2]) clock))
      | _ => false
    | _ => false
  | _ => false
theorem nextMapB_sound {it : LV} {K : LV → LHeap → Bool} (h : nextMapB it g K = true) : nextMapL it g fun v g => K v g = true := by
  unfold nextMapB at h
  unfold nextMapL
  split at h
  · split at h
    · rename_i hr; simp only [hr]; exact h
    · rename_i hr
      simp only [hr]
      split at h
      · rename_i hm
        simp only [hm]
        simp only [Bool.and_eq_true, Bool.not_eq_true', Bool.or_eq_true] at h
        refine ⟨h.1.1, fun hn => ?_, fun e he hs => ?_⟩
        · rcases h.1.2 with h1 | h1
          · rw [hn] at h1; simp at h1
          · exact h1
        · have := List.all_eq_true.1 h.2 e he
          rw [hs] at this
          simpa using this
      · cases h
    · cases h
  · cases h

def callVB (P : Program) (E : CallB) (f : LV) (args : List LV) (g : LHeap) (K : LV → LHeap → Bool) : Bool :=
  match f with
  | .func (.func f) first caps =>
    match extL P f (first ++ args ++ caps) with
    | some v => K v g
    | none => E f (first ++ args ++ caps) g K
  | .func (.method name) (.iface t v :: first) _ => match methodL P t name with
    | some f => E f (v :: (first ++ args)) g K
    | none => false
  | .yield a => E.round a args g K
  | _ => false
def opB (P : Program) (E : CallB) (tm : Nat → LV) (o : Oper) (g : LHeap) (K : LV → LHeap → Bool) : Bool :=
  match o.op with
  | .next it false => nextMapB (evL tm it) g K
  | .call c =>
    match c.callee with
    | .builtin b => match builtinL P b c.argTypes.toList (c.args.toList.map (evL tm)) g with
      | some r => K r.1 r.2
      | none => false
    | .value f => callVB P E (evL tm f) (c.args.toList.map (evL tm)) g K
    | .invoke r name =>
      match evL tm r with
      | .iface t v => match methodL P t name with
        | some f => E f (v :: c.args.toList.map (evL tm)) g K
        | none => false
      | _ => false
  | _ => match opE P noCall tm o g with
    | some r => K r.1 r.2
    | none => false
theorem opB_sound {E : CallB} {C : CallSem} (hE : AgreesB P E C) {tm : Nat → LV} {o : Oper} {K : LV → LHeap → Bool} (h : opB P E tm o g K = true) : opL P C tm o g fun v g => K v g = true := by
  unfold opB at h
  split at h
  · rename_i ho; unfold opL; simp only [ho]; exact nextMapB_sound h
  · rename_i ho
    unfold opL
    simp only [ho]
    split at h
    · rename_i hc
      simp only [hc]
      split at h
      · rename_i r hr; exact oK_of (v := r.1) (g' := r.2) hr h
      · cases h
    · rename_i hc
      simp only [hc]
      unfold callVB at h
      split at h
      · rename_i hf
        simp only [hf, callV]
        split at h
        · rename_i hx; simp only [hx]; exact h
        · rename_i hx; simp only [hx]; exact hE.call _ _ _ _ h
      · rename_i hf
        simp only [hf, callV]
        split at h
        · rename_i hm; simp only [hm]; exact hE.call _ _ _ _ h
        · cases h
      · rename_i hf; simp only [hf, callV]; exact hE.round _ _ _ _ h
      · cases h
    · rename_i hc
      simp only [hc]
      split at h
      · rename_i hr
        simp only [hr]
        split at h
        · rename_i hm; simp only [hm]; exact hE.call _ _ _ _ h
        · cases h
      · cases h
  · split at h
    · rename_i r hr; exact opE_sound (noCall_agrees C) (v := r.1) (g' := r.2) hr h
    · cases h

def stepB (P : Program) (E : CallB) (ops : Array Oper) (o : Oper) (st : LSt) (K : LSt → Bool) : Bool :=
  match o.guard with
  | none => opB P E st.tm o st.g fun v g => K ⟨putL st.tm o.dst v, g⟩
  | some (j, want) =>
    match (ops[j]?).bind (·.dst) with
    | none => false
    | some d =>
      match st.tm d with
      | .bool true => if want then opB P E (putL st.tm (some d) (.bool true)) o st.g fun v g => K ⟨putL (putL st.tm (some d) (.bool true)) o.dst v, g⟩
        else K ⟨putL (putL st.tm (some d) (.bool true)) o.dst undefL, st.g⟩
      | .bool false => if want then K ⟨putL (putL st.tm (some d) (.bool false)) o.dst undefL, st.g⟩
        else opB P E (putL st.tm (some d) (.bool false)) o st.g fun v g => K ⟨putL (putL st.tm (some d) (.bool false)) o.dst v, g⟩
      | .tuple [] => K ⟨putL st.tm o.dst undefL, st.g⟩
      | _ => false
theorem stepB_sound {E : CallB} {C : CallSem} (hE : AgreesB P E C) {ops : Array Oper} {o : Oper} {st : LSt} {K : LSt → Bool} (h : stepB P E ops o st K = true) : stepL P C ops o st fun st => K st = true := by
  unfold stepB at h
  unfold stepL
  split at h
  · rename_i hg; simp only [hg]; exact opB_sound hE h
  · rename_i j want hg
    simp only [hg]
    split at h
    · cases h
    · rename_i d hd
      simp only [hd]
      split at h
      · rename_i hb
        simp only [hb]
        cases want with
        | true => simp only [if_true] at h ⊢; exact opB_sound hE h
        | false => simp only [Bool.false_eq_true, if_false] at h ⊢; exact h
      · rename_i hb
        simp only [hb]
        cases want with
        | true => simp only [if_true] at h ⊢; exact h
        | false => simp only [Bool.false_eq_true, if_false] at h ⊢; exact opB_sound hE h
      · rename_i hb
        simp only [hb]
        exact h
      · cases h

theorem opL_mono {C : CallSem} (hC : ∀ f args g (K K' : LV → LHeap → Prop), (∀ v g, K v g → K' v g) → C f args g K → C f args g K') {tm : Nat → LV} {o : Oper} {K K' : LV → LHeap → Prop} (hk : ∀ v g, K v g → K' v g) (h : opL P C tm o g K) : opL P C tm o g K' := by
  have v1 : ∀ {x : Option LV}, (vK x fun v => K v g) → vK x fun v => K' v g := fun {x} h => by cases x with | none => exact h | some v => exact hk _ _ h
  have g1 : ∀ {x : Option LHeap}, (gK x fun g => K undefL g) → gK x fun g => K' undefL g := fun {x} h => by cases x with | none => exact h | some v => exact hk _ _ h
  have o1 : ∀ {x : Option (LV × LHeap)}, oK x K → oK x K' := fun {x} h => by cases x with | none => exact h | some v => exact hk _ _ h
  unfold opL at h ⊢
  split at h
  all_goals rename_i heq
  all_goals (try simp only [heq])
  any_goals first
    | exact v1 h
    | exact g1 h
    | exact o1 h
    | exact hk _ _ h
    | (cases h; done)
  · cases hz : zeroL P _ with
    | none => rw [hz] at h; exact h
    | some z => rw [hz] at h; exact o1 h
  · unfold nextMapL at h ⊢
    split at h
    · split at h
      · rename_i hr; (try simp only [hr]); exact hk _ _ h
      · rename_i hr
        (try simp only [hr])
        split at h
        · rename_i hm; (try simp only [hm]); exact ⟨h.1, fun e => hk _ _ (h.2.1 e), fun e he hs => hk _ _ (h.2.2 e he hs)⟩
        · exact h.elim
      · exact h.elim
    · exact h.elim
  · split at h
    · rename_i hc; (try simp only [hc]); exact o1 h
    · rename_i hc
      (try simp only [hc])
      unfold callV at h ⊢
      split at h
      · rename_i hf
        (try simp only [hf])
        split at h
        · rename_i hx; (try simp only [hx]); exact hk _ _ h
        · rename_i hx; (try simp only [hx]); exact hC _ _ _ _ _ hk h
      · rename_i hf
        (try simp only [hf])
        split at h
        · rename_i hm; (try simp only [hm]); exact hC _ _ _ _ _ hk h
        · exact h.elim
      · rename_i hf; (try simp only [hf]); exact h.mono hk
      · exact h.elim
    · rename_i hc
      (try simp only [hc])
      split at h
      · rename_i hr
        (try simp only [hr])
        split at h
        · rename_i hm; (try simp only [hm]); exact hC _ _ _ _ _ hk h
        · exact h.elim
      · exact h.elim
def Mono (C : CallSem) : Prop := ∀ f args g (K K' : LV → LHeap → Prop), (∀ v g, K v g → K' v g) → C f args g K → C f args g K'
theorem stepL_mono {C : CallSem} (hC : Mono C) {ops : Array Oper} {o : Oper} {st : LSt} {K K' : LSt → Prop} (hk : ∀ st, K st → K' st) (h : stepL P C ops o st K) : stepL P C ops o st K' := by
  unfold stepL at h ⊢
  split at h
  · rename_i hg; (try simp only [hg]); exact opL_mono hC (fun _ _ => hk _) h
  · rename_i j want hg
    (try simp only [hg])
    split at h
    · exact h.elim
    · rename_i d hd
      (try simp only [hd])
      split at h
      · rename_i hb
        (try simp only [hb])
        cases want with
        | true => simp only [if_true] at h ⊢; exact opL_mono hC (fun _ _ => hk _) h
        | false => simp only [Bool.false_eq_true, if_false] at h ⊢; exact hk _ h
      · rename_i hb
        (try simp only [hb])
        cases want with
        | true => simp only [if_true] at h ⊢; exact hk _ h
        | false => simp only [Bool.false_eq_true, if_false] at h ⊢; exact opL_mono hC (fun _ _ => hk _) h
      · rename_i hb
        (try simp only [hb])
        exact hk _ h
      · exact h.elim

def runB (P : Program) (E : CallB) (ops : Array Oper) : List Oper → LSt → (LSt → Bool) → Bool
  | [], st, K => K st
  | o :: rest, st, K => stepB P E ops o st fun st' => runB P E ops rest st' K
theorem runB_sound {E : CallB} {C : CallSem} (hE : AgreesB P E C) (hC : Mono C) {ops : Array Oper} {K : LSt → Bool} : ∀ (l : List Oper) (st : LSt), runB P E ops l st K = true → runL P C ops l st fun st => K st = true
  | [], _, h => h
  | _ :: rest, _, h => stepL_mono hC (fun st' h' => runB_sound hE hC rest st' h') (stepB_sound hE h)

/-! A region that draws its order. -/
mutual
def LV.eqb : LV → LV → Bool
  | .bool a, .bool b => a == b
  | .int k n, .int l m => decide (k = l) && decide (n = m)
  | .str s, .str t => decide (s = t)
  | .ptr a i, .ptr b j => Nat.beq a b && Nat.beq i j
  | .nilp, .nilp => true
  | .slice a i l c, .slice b j m d => Nat.beq a b && Nat.beq i j && Nat.beq l m && decide (c = d)
  | .nils, .nils => true
  | .map a, .map b => Nat.beq a b
  | .nilm, .nilm => true
  | .nilf, .nilf => true
  | .nili, .nili => true
  | .iface t v, .iface u w => Nat.beq t u && v.eqb w
  | .agg cs, .agg ds => eqbs cs ds
  | .tuple cs, .tuple ds => eqbs cs ds
  | .func (.func f) a b, .func (.func k) c d => Nat.beq f k && (eqbs a c && eqbs b d)
  | _, _ => false
def eqbs : List LV → List LV → Bool
  | [], [] => true
  | v :: vs, w :: ws => v.eqb w && eqbs vs ws
  | _, _ => false
end
mutual
theorem LV.eqb_eq : (v w : LV) → v.eqb w = true → v = w
  | .bool a, .bool b, h => by simp [LV.eqb] at h; rw [h]
  | .int k n, .int l m, h => by simp [LV.eqb] at h; rw [h.1, h.2]
  | .str s, .str t, h => by simp [LV.eqb] at h; rw [h]
  | .ptr a i, .ptr b j, h => by simp [LV.eqb] at h; rw [h.1, h.2]
  | .nilp, .nilp, _ => rfl
  | .slice a i l c, .slice b j m d, h => by simp [LV.eqb] at h; rw [h.1.1.1, h.1.1.2, h.1.2, h.2]
  | .nils, .nils, _ => rfl
  | .map a, .map b, h => by simp [LV.eqb] at h; rw [h]
  | .nilm, .nilm, _ => rfl
  | .nilf, .nilf, _ => rfl
  | .nili, .nili, _ => rfl
  | .iface t v, .iface u w, h => by
    simp only [LV.eqb, Bool.and_eq_true] at h
    rw [Nat.eq_of_beq_eq_true h.1, v.eqb_eq w h.2]
  | .agg cs, .agg ds, h => by rw [eqbs_eq cs ds (by simpa only [LV.eqb] using h)]
  | .tuple cs, .tuple ds, h => by rw [eqbs_eq cs ds (by simpa only [LV.eqb] using h)]
  | .func (.func f) a b, .func (.func k) c d, h => by
    simp only [LV.eqb, Bool.and_eq_true] at h
    rw [Nat.eq_of_beq_eq_true h.1, eqbs_eq a c h.2.1, eqbs_eq b d h.2.2]
theorem eqbs_eq : (v w : List LV) → eqbs v w = true → v = w
  | [], [], _ => rfl
  | v :: vs, w :: ws, h => by
    simp only [eqbs, Bool.and_eq_true] at h
    rw [v.eqb_eq w h.1, eqbs_eq vs ws h.2]
end
def readB (P : Program) (g : LHeap) (h : Held) : Bool :=
  match lightV P h.tm h.o.op g with
  | some v => v.eqb h.v
  | none => false
def heldB (P : Program) (ms : List Nat) (j : Nat) (g : LHeap) (D : List Held) : Bool := D.all fun h => !(conc ms h.i j) || readB P g h
theorem heldB_sound {ms : List Nat} {j : Nat} : ∀ {D : List Held}, heldB P ms j g D = true → heldOK P ms j g D
  | [], _ => trivial
  | h :: D, hh => by
    simp only [heldB, List.all_cons, Bool.and_eq_true, Bool.or_eq_true, Bool.not_eq_true'] at hh
    refine ⟨fun e => ?_, heldB_sound hh.2⟩
    rcases hh.1 with h1 | h1
    · rw [h1] at e; cases e
    · unfold readB at h1
      split at h1
      · rename_i v hv; rw [hv, LV.eqb_eq _ _ h1]
      · cases h1
def vB (o : Option LV) (K : LV → Bool) : Bool :=
  match o with
  | some v => K v
  | none => false
theorem vB_vK {o : Option LV} {K : LV → Bool} (h : vB o K = true) : vK o fun v => K v = true := by
  cases o with
  | none => cases h
  | some v => exact h
def lightB (P : Program) (ops : Array Oper) (i : Nat) (o : Oper) (reads : Bool) (D : List Held) (st : LSt) (K : List Held → LSt → Bool) : Bool :=
  match o.guard with
  | none => vB (lightV P st.tm o.op st.g) fun v => K (if reads then ⟨i, o, st.tm, v⟩ :: D else D) ⟨putL st.tm o.dst v, st.g⟩
  | some (j, want) =>
    match (ops[j]?).bind (·.dst) with
    | none => false
    | some d =>
      match st.tm d with
      | .bool true => if want then vB (lightV P (putL st.tm (some d) (.bool true)) o.op st.g) fun v => K (if reads then ⟨i, o, putL st.tm (some d) (.bool true), v⟩ :: D else D) ⟨putL (putL st.tm (some d) (.bool true)) o.dst v, st.g⟩
        else K D ⟨putL (putL st.tm (some d) (.bool true)) o.dst undefL, st.g⟩
      | .bool false => if want then K D ⟨putL (putL st.tm (some d) (.bool false)) o.dst undefL, st.g⟩
        else vB (lightV P (putL st.tm (some d) (.bool false)) o.op st.g) fun v => K (if reads then ⟨i, o, putL st.tm (some d) (.bool false), v⟩ :: D else D) ⟨putL (putL st.tm (some d) (.bool false)) o.dst v, st.g⟩
      | .tuple [] => K D ⟨putL st.tm o.dst undefL, st.g⟩
      | _ => false
theorem vK_mono {o : Option LV} {K K' : LV → Prop} (hk : ∀ v, K v → K' v) (h : vK o K) : vK o K' := by
  cases o with
  | none => exact h
  | some v => exact hk _ h
theorem lightB_sound {ops : Array Oper} {i : Nat} {o : Oper} {reads : Bool} {D : List Held} {st : LSt} {K : List Held → LSt → Bool} {K' : List Held → LSt → Prop} (hk : ∀ D st, K D st = true → K' D st) (h : lightB P ops i o reads D st K = true) : lightStep P ops i o reads D st K' := by
  unfold lightB at h
  unfold lightStep
  split at h
  · rename_i hg; simp only [hg]; exact vK_mono (fun _ => hk _ _) (vB_vK h)
  · rename_i j want hg
    simp only [hg]
    split at h
    · cases h
    · rename_i d hd
      simp only [hd]
      split at h
      · rename_i hb
        simp only [hb]
        cases want with
        | true => simp only [if_true] at h ⊢; exact vK_mono (fun _ => hk _ _) (vB_vK h)
        | false => simp only [Bool.false_eq_true, if_false] at h ⊢; exact hk _ _ h
      · rename_i hb
        simp only [hb]
        cases want with
        | true => simp only [if_true] at h ⊢; exact hk _ _ h
        | false => simp only [Bool.false_eq_true, if_false] at h ⊢; exact vK_mono (fun _ => hk _ _) (vB_vK h)
      · rename_i hb
        simp only [hb]
        exact hk _ _ h
      · cases h
def allB : List Nat → (Nat → Bool) → Bool
  | [], _ => true
  | i :: is, f => f i && allB is f
theorem allB_sound {f : Nat → Bool} {f' : Nat → Prop} (hf : ∀ i, f i = true → f' i) : ∀ (l : List Nat), allB l f = true → allL l f'
  | [], _ => trivial
  | i :: is, h => by
    simp only [allB, Bool.and_eq_true] at h
    exact ⟨hf i h.1, allB_sound hf is h.2⟩
def drawB (P : Program) (E : CallB) (ops : Array Oper) (ms : List Nat) : Nat → Array Bool → List Held → LSt → (LSt → Bool) → Bool
  | 0, listed, _, st, K => match Region.ready .any ops listed with
    | [] => K st
    | _ => false
  | n + 1, listed, D, st, K =>
    match Region.ready .any ops listed with
    | [] => K st
    | r :: rs =>
      match pickL1 P ops ms listed (r :: rs) with
      | some (i, o, reads) => lightB P ops i o reads D st fun D' st' => drawB P E ops ms n (listed.setIfInBounds i true) D' st' K
      | none => allB (r :: rs) fun i =>
        match ops[i]? with
        | some o => match kindO P o.op with
          | some _ => false
          | none => stepB P E ops o st fun st' => heldB P ms i st'.g D && drawB P E ops ms n (listed.setIfInBounds i true) D st' K
        | none => false
theorem drawB_sound {E : CallB} {C : CallSem} (hE : AgreesB P E C) (hC : Mono C) {ops : Array Oper} {ms : List Nat} {K : LSt → Bool} : ∀ (n : Nat) (listed : Array Bool) (D : List Held) (st : LSt), drawB P E ops ms n listed D st K = true →
    drawL P C ops ms n listed D st fun st => K st = true := by
  intro n
  induction n with
  | zero =>
    intro listed D st h
    unfold drawB at h
    unfold drawL
    split at h
    · rename_i hr; rw [hr]; exact h
    · cases h
  | succ n ih =>
    intro listed D st h
    unfold drawB at h
    unfold drawL
    split at h
    · rename_i hr; rw [hr]; exact h
    · rename_i r rs hr
      rw [hr]
      simp only []
      split at h
      · rename_i i o reads hp
        rw [hp]
        exact lightB_sound (fun D' st' h' => ih _ _ _ h') h
      · rename_i hp
        rw [hp]
        refine allB_sound (fun i hi => ?_) _ h
        split at hi
        · rename_i o ho
          simp only [ho]
          split at hi
          · cases hi
          · rename_i hk
            simp only [hk]
            refine stepL_mono hC (fun st' h' => ?_) (stepB_sound hE hi)
            simp only [Bool.and_eq_true] at h'
            exact ⟨heldB_sound h'.1, ih _ _ _ h'.2⟩
        · cases hi

def thenB (k : LSt → Bool) (K : LEx → LSt → Bool) : LEx → LSt → Bool := fun e st =>
  match e with
  | .normal => k st
  | e => K e st
def exitB (id : Nat) (K : LEx → LSt → Bool) : LEx → LSt → Bool := fun e st =>
  match e with
  | .exit id' => if Nat.beq id' id then K .normal st else K (.exit id') st
  | e => K e st
def leaveB (a : Nat) (tm : Nat → LV) (g : LHeap) (K : LEx → LSt → Bool) : Bool :=
  match g.get a with
  | some (.loop r) => match r.state with
    | .busy => false
    | _ => match r.pending with
      | none => K .normal ⟨tm, g.erase a⟩
      | some (.exit id) => K (.exit id) ⟨tm, g.erase a⟩
      | some .ret => K .ret ⟨tm, g.erase a⟩
      | _ => false
  | _ => false
theorem leaveB_sound {a : Nat} {tm : Nat → LV} {g : LHeap} {K : LEx → LSt → Bool} (h : leaveB a tm g K = true) : leaveL a tm g fun e st => K e st = true := by
  unfold leaveB at h
  unfold leaveL
  split at h
  · rename_i r hr
    simp only [hr]
    split at h
    · cases h
    · rename_i hs
      refine ⟨hs, ?_⟩
      split at h
      · rename_i e; simp only [e]; exact h
      · rename_i e; simp only [e]; exact h
      · rename_i e; simp only [e]; exact h
      · cases h
  · cases h
def codeStep (P : Program) (E : CallB) (rec : Code → LSt → (LEx → LSt → Bool) → Bool) (c : Code) (st : LSt) (K : LEx → LSt → Bool) : Bool :=
  match c with
  | .skip => K .normal st
  | .region _ ops true => drawB P E ops (masks ops.toList []) ops.size (Array.replicate ops.size false) [] st (K .normal)
  | .region _ ops false => runB P E ops ops.toList st (K .normal)
  | .seq a b => rec a st (thenB (fun st' => rec b st' K) K)
  | .cond c a b => match evL st.tm c with
    | .bool true => rec a st K
    | .bool false => rec b st K
    | _ => false
  | .block id b => rec b st (exitB id K)
  | .loop b => rec b st (thenB (fun st' => rec (.loop b) st' K) K)
  | .exit id => K (.exit id) st
  | .ret => K .ret st
  | .scope b => rec b st K
  | .label _ => K .normal st
  | .rangeFunc f ps a b => match evL st.tm f with
    | .func (.func fid) first caps => E fid (first ++ [.yield st.g.next] ++ caps) (st.g.alloc (.loop ⟨.ready, none, st.tm, ps, a, b⟩)) fun _ g' => leaveB st.g.next st.tm g' K
    | _ => false
  | _ => false
def codeB (P : Program) (E : CallB) : Nat → Code → LSt → (LEx → LSt → Bool) → Bool
  | 0 => fun _ _ _ => false
  | n + 1 => codeStep P E (codeB P E n)
theorem codeB_succ {E : CallB} (n : Nat) (c : Code) (st : LSt) (K : LEx → LSt → Bool) : codeB P E (n + 1) c st K = codeStep P E (codeB P E n) c st K := rfl

theorem loopL_mono {body : LSt → (LEx → LSt → Prop) → Prop} (hb : ∀ st (K K' : LEx → LSt → Prop), (∀ e st, K e st → K' e st) → body st K → body st K') {st : LSt} {K K' : LEx → LSt → Prop} (hk : ∀ e st, K e st → K' e st) (h : loopL body st K) : loopL body st K' := by
  obtain ⟨I, μ, h1, h2⟩ := h
  refine ⟨I, μ, h1, fun s hs => hb s _ _ (fun e s' h' => ?_) (h2 s hs)⟩
  cases e with
  | normal => exact h'
  | _ => exact hk _ _ h'
theorem runL_mono {C : CallSem} (hC : Mono C) {ops : Array Oper} {K K' : LSt → Prop} (hk : ∀ st, K st → K' st) : ∀ (l : List Oper) (st : LSt), runL P C ops l st K → runL P C ops l st K'
  | [], _, h => hk _ h
  | _ :: rest, _, h => stepL_mono hC (fun st' h' => runL_mono hC hk rest st' h') h
theorem allL_mono {f f' : Nat → Prop} (hf : ∀ i, f i → f' i) : ∀ (l : List Nat), allL l f → allL l f'
  | [], _ => trivial
  | i :: is, h => ⟨hf i h.1, allL_mono hf is h.2⟩
theorem lightStep_mono {ops : Array Oper} {i : Nat} {o : Oper} {reads : Bool} {D : List Held} {st : LSt} {K K' : List Held → LSt → Prop} (hk : ∀ D st, K D st → K' D st) (h : lightStep P ops i o reads D st K) : lightStep P ops i o reads D st K' := by
  unfold lightStep at h ⊢
  split at h
  · rename_i hg; (try simp only [hg]); exact vK_mono (fun _ => hk _ _) h
  · rename_i j want hg
    (try simp only [hg])
    split at h
    · exact h.elim
    · rename_i d hd
      (try simp only [hd])
      split at h
      · rename_i hb
        (try simp only [hb])
        cases want with
        | true => simp only [if_true] at h ⊢; exact vK_mono (fun _ => hk _ _) h
        | false => simp only [Bool.false_eq_true, if_false] at h ⊢; exact hk _ _ h
      · rename_i hb
        (try simp only [hb])
        cases want with
        | true => simp only [if_true] at h ⊢; exact hk _ _ h
        | false => simp only [Bool.false_eq_true, if_false] at h ⊢; exact vK_mono (fun _ => hk _ _) h
      · rename_i hb
        (try simp only [hb])
        exact hk _ _ h
      · exact h.elim
theorem drawL_mono {C : CallSem} (hC : Mono C) {ops : Array Oper} {ms : List Nat} {K K' : LSt → Prop} (hk : ∀ st, K st → K' st) : ∀ (n : Nat) (listed : Array Bool) (D : List Held) (st : LSt), drawL P C ops ms n listed D st K → drawL P C ops ms n listed D st K' := by
  intro n
  induction n with
  | zero =>
    intro listed D st h
    unfold drawL at h ⊢
    split at h
    · rename_i hr; (try rw [hr]); exact hk _ h
    · exact h.elim
  | succ n ih =>
    intro listed D st h
    unfold drawL at h ⊢
    split at h
    · rename_i hr; (try rw [hr]); exact hk _ h
    · rename_i r rs hr
      (try rw [hr])
      (try simp only [])
      split at h
      · rename_i i o reads hp
        (try rw [hp])
        exact lightStep_mono (fun D' st' h' => ih _ _ _ h') h
      · rename_i hp
        (try rw [hp])
        refine allL_mono (fun i hi => ?_) _ h
        split at hi
        · rename_i o ho
          (try simp only [ho])
          split at hi
          · exact hi.elim
          · rename_i hk'
            (try simp only [hk'])
            exact stepL_mono hC (fun st' h' => ⟨h'.1, ih _ _ _ h'.2⟩) hi
        · exact hi.elim
theorem leaveL_mono {a : Nat} {tm : Nat → LV} {g : LHeap} {K K' : LEx → LSt → Prop} (hk : ∀ e st, K e st → K' e st) (h : leaveL a tm g K) : leaveL a tm g K' := by
  unfold leaveL at h ⊢
  split at h
  · rename_i r hr
    (try simp only [hr])
    refine ⟨h.1, ?_⟩
    have h2 := h.2
    split at h2
    · rename_i e; (try simp only [e]); exact hk _ _ h2
    · rename_i e; (try simp only [e]); exact hk _ _ h2
    · rename_i e; (try simp only [e]); exact hk _ _ h2
    · exact h2.elim
  · exact h.elim
theorem codeL_mono {C : CallSem} (hC : Mono C) : ∀ (c : Code) (st : LSt) (K K' : LEx → LSt → Prop), (∀ e st, K e st → K' e st) → codeL P C c st K → codeL P C c st K' := by
  intro c
  induction c with
  | region id ops d =>
    intro st K K' hk h
    cases d with
    | true => exact drawL_mono hC (fun st => hk _ st) _ _ _ _ h
    | false => exact runL_mono hC (fun st => hk _ st) _ _ h
  | seq a b iha ihb =>
    intro st K K' hk h
    refine iha st _ _ (fun e st' h' => ?_) h
    cases e with
    | normal => exact ihb st' _ _ hk h'
    | _ => exact hk _ _ h'
  | cond c a b iha ihb =>
    intro st K K' hk h
    simp only [codeL] at h ⊢
    split at h
    · rename_i hc; (try simp only [hc]); exact iha st _ _ hk h
    · rename_i hc; (try simp only [hc]); exact ihb st _ _ hk h
    · exact h.elim
  | block id b ih =>
    intro st K K' hk h
    refine ih st _ _ (fun e st' h' => ?_) h
    cases e with
    | exit id' =>
      simp only [exitL] at h' ⊢
      split at h'
      · rename_i hb; rw [if_pos hb]; exact hk _ _ h'
      · rename_i hb; rw [if_neg hb]; exact hk _ _ h'
    | _ => exact hk _ _ h'
  | loop b ih => intro st K K' hk h; exact loopL_mono ih hk h
  | skip => intro st K K' hk h; exact hk _ _ h
  | exit id => intro st K K' hk h; exact hk _ _ h
  | ret => intro st K K' hk h; exact hk _ _ h
  | scope b ih => intro st K K' hk h; exact ih st _ _ hk h
  | label l => intro st K K' hk h; exact hk _ _ h
  | rangeFunc f ps a b _ _ =>
    intro st K K' hk h
    simp only [codeL] at h ⊢
    split at h
    · rename_i hc; (try simp only [hc]); exact hC _ _ _ _ _ (fun _ _ h' => leaveL_mono hk h') h
    · exact h.elim
  | _ => intro st K K' hk h; exact h.elim

theorem codeB_sound {E : CallB} {C : CallSem} (hE : AgreesB P E C) (hC : Mono C) : ∀ (c : Code) (n : Nat) (st : LSt) (K : LEx → LSt → Bool), codeB P E n c st K = true → codeL P C c st fun e st => K e st = true := by
  intro c
  induction c with
  | seq a b iha ihb =>
    intro n st K h
    cases n with
    | zero => cases h
    | succ n =>
      refine codeL_mono hC a st _ _ (fun e st' h' => ?_) (iha n st _ h)
      cases e with
      | normal => exact ihb n st' K h'
      | _ => exact h'
  | cond c a b iha ihb =>
    intro n st K h
    cases n with
    | zero => cases h
    | succ n =>
      rw [codeB_succ] at h; unfold codeStep at h
      simp only [] at h
      simp only [codeL]
      split at h
      · rename_i hc; simp only [hc]; exact iha n st K h
      · rename_i hc; simp only [hc]; exact ihb n st K h
      · cases h
  | block id b ih =>
    intro n st K h
    cases n with
    | zero => cases h
    | succ n =>
      refine codeL_mono hC b st _ _ (fun e st' h' => ?_) (ih n st _ h)
      cases e with
      | exit id' =>
        simp only [exitB, exitL] at h' ⊢
        split at h'
        · rename_i hb; rw [if_pos hb]; exact h'
        · rename_i hb; rw [if_neg hb]; exact h'
      | _ => exact h'
  | loop b ih =>
    intro n st K h
    let T : LSt → Nat → Prop := fun s k => codeB P E k (.loop b) s K = true
    have hmin : ∀ s k, T s k → ∃ m, T s m ∧ ∀ j, T s j → m ≤ j := by
      intro s k
      induction k using Nat.strongRecOn with
      | _ k ihk =>
        intro hk
        by_cases hx : ∃ j, j < k ∧ T s j
        · obtain ⟨j, hj, hT⟩ := hx; exact ihk j hj hT
        · exact ⟨k, hk, fun j hj => Nat.le_of_not_lt fun hlt => hx ⟨j, hlt, hj⟩⟩
    refine ⟨fun s => ∃ k, T s k, fun s => open Classical in if hs : ∃ m, T s m ∧ ∀ j, T s j → m ≤ j then Classical.choose hs else 0, ⟨n, h⟩, ?_⟩
    rintro s ⟨k, hk⟩
    have hs := hmin s k hk
    have hch := Classical.choose_spec hs
    generalize hm : Classical.choose hs = m at hch
    cases m with
    | zero => cases hch.1
    | succ m =>
      have h1 := hch.1
      refine codeL_mono hC b s _ _ (fun e s1 h' => ?_) (ih m s _ h1)
      cases e with
      | normal =>
        have hT1 : T s1 m := h'
        refine ⟨⟨m, hT1⟩, ?_⟩
        have hs1 := hmin s1 m hT1
        simp only []
        rw [dif_pos hs, dif_pos hs1, hm]
        have := (Classical.choose_spec hs1).2 m hT1
        omega
      | _ => exact h'
  | region id ops d =>
    intro n st K h
    cases n with
    | zero => cases h
    | succ n =>
      cases d with
      | true => exact drawB_sound hE hC _ _ _ _ h
      | false => exact runB_sound hE hC _ _ h
  | skip => intro n st K h; cases n with | zero => cases h | succ n => exact h
  | exit id => intro n st K h; cases n with | zero => cases h | succ n => exact h
  | ret => intro n st K h; cases n with | zero => cases h | succ n => exact h
  | scope b ih => intro n st K h; cases n with | zero => cases h | succ n => exact ih n st _ h
  | label l => intro n st K h; cases n with | zero => cases h | succ n => exact h
  | rangeFunc f ps a b _ _ =>
    intro n st K h
    cases n with
    | zero => cases h
    | succ n =>
      rw [codeB_succ] at h; unfold codeStep at h
      simp only [] at h
      simp only [codeL]
      split at h
      · rename_i hc; simp only [hc]; exact hC _ _ _ _ _ (fun _ _ h' => leaveB_sound h') (hE.call _ _ _ _ h)
      · cases h
  | _ => intro n st K h; cases n <;> cases h

def endB (P : Program) (fn : Func) (K : LV → LHeap → Bool) : LEx → LSt → Bool := fun e st =>
  match e with
  | .exit _ => false
  | _ => match resL P st.tm st.g fn.results.toList with
    | some vs => K (oneL vs) st.g
    | none => false
/-- A round's end. -/
def roundEB (a : Nat) (K : LV → LHeap → Bool) : LEx → LSt → Bool := fun e st =>
  match st.g.get a with
  | some (.loop r) => match e with
    | .normal => K (.bool true) (st.g.set a (.loop { r with state := .ready, pending := none }))
    | .exit id => K (.bool false) (st.g.set a (.loop { r with state := .done, pending := some (.exit id) }))
    | .ret => K (.bool false) (st.g.set a (.loop { r with state := .done, pending := some .ret }))
  | _ => false
def roundBB (P : Program) (E : CallB) (n : Nat) (a : Nat) (body : Code) (K : LV → LHeap → Bool) : LEx → LSt → Bool := fun e st =>
  match e with
  | .normal => match st.g.get a with
    | some (.loop r) => match r.state with
      | .ready => codeB P E n body ⟨st.tm, st.g.set a (.loop { r with state := .busy })⟩ (roundEB a K)
      | _ => false
    | _ => false
  | _ => false
def roundB' (P : Program) (E : CallB) (n : Nat) (a : Nat) (args : List LV) (g : LHeap) (K : LV → LHeap → Bool) : Bool :=
  match g.get a with
  | some (.loop r) => match r.state with
    | .ready => Nat.beq args.length r.params.size && codeB P E n r.assign ⟨putAll r.tm (r.params.toList.zip args), g⟩ (roundBB P E n a r.body K)
    | _ => false
  | _ => false
theorem roundB_sound (hm : P.follows .mixedOrders = true) {E : CallB} (hE : AgreesB P E (Ok P)) (hC : Mono (Ok P)) {n a : Nat} {args : List LV} {g : LHeap} {K : LV → LHeap → Bool} (h : roundB' P E n a args g K = true) : Round P a args g fun v g' => K v g' = true := by
  unfold roundB' at h
  split at h
  · rename_i r hr
    split at h
    · rename_i hs
      simp only [Bool.and_eq_true] at h
      refine round_of_code hm hr hs (Nat.eq_of_beq_eq_true h.1) ?_
      refine codeL_mono hC r.assign _ _ _ (fun e st h' => ?_) (codeB_sound hE hC r.assign n _ _ h.2)
      unfold roundBB at h'
      unfold Lm.roundB
      split at h'
      · simp only []
        split at h'
        · rename_i r' hr'
          simp only [hr']
          split at h'
          · rename_i hs'
            refine ⟨hs', ?_⟩
            refine codeL_mono hC r.body _ _ _ (fun e st h' => ?_) (codeB_sound hE hC r.body n _ _ h')
            unfold roundEB at h'
            unfold roundE
            split at h'
            · rename_i r2 hr2; simp only [hr2]; cases e <;> exact h'
            · cases h'
          · cases h'
        · cases h'
      · cases h'
    · cases h
  · cases h
/-- A call, in its time: functions that are listed are known to be fine; of others, what is not fine is taken out. -/
def callB (P : Program) (l : List FuncId) : Nat → CallB
  | 0 => ⟨fun _ _ _ _ => false, fun _ _ _ _ => false⟩
  | n + 1 => ⟨fun f args g K =>
    match P.funcs[f]? with
    | some fn => match fn.body with
      | some c => Nat.ble args.length fn.ntmps &&
        match l.any (Nat.beq f) with
        | true => codeB P (callB P l n) n c ⟨startL args, g⟩ (endB P fn K)
        | false => !(fn.name == "runtime.NumGoroutine") && codeB P (callB P l n) n (pruneC fn.ntmps c) ⟨startL args, g⟩ (endB P fn K)
      | none => false
    | none => false, roundB' P (callB P l n) n⟩
def fineF (P : Program) (f : FuncId) : Bool :=
  match P.funcs[f]? with
  | some fn => match fn.body with
    | some c => fineC fn.ntmps c && !(fn.name == "runtime.NumGoroutine")
    | none => false
  | none => false
theorem ok_mono : Mono (Ok P) := fun _ _ _ _ _ hk h => h.mono hk
theorem endB_endL {fn : Func} {K : LV → LHeap → Bool} (e : LEx) (st : LSt) (h' : endB P fn K e st = true) : endL P fn (fun v g => K v g = true) e st := by
  cases e with
  | exit id => cases h'
  | normal =>
    simp only [endB, endL] at h' ⊢
    split at h'
    · rename_i hr; simp only [hr]; exact h'
    · cases h'
  | ret =>
    simp only [endB, endL] at h' ⊢
    split at h'
    · rename_i hr; simp only [hr]; exact h'
    · cases h'
theorem callB_sound (hm : P.follows .mixedOrders = true) {l : List FuncId} (hl : l.all (fineF P) = true) : ∀ (n : Nat), AgreesB P (callB P l n) (Ok P) := by
  intro n
  induction n with
  | zero => exact ⟨fun f args g K h => (by cases h), fun a args g K h => (by cases h)⟩
  | succ n ih =>
    refine ⟨fun f args g K h => ?_, fun a args g K h => roundB_sound hm ih ok_mono h⟩
    simp only [callB] at h
    split at h
    · rename_i fn hfn
      split at h
      · rename_i c hc
        simp only [Bool.and_eq_true] at h
        obtain ⟨hlen, h⟩ := h
        split at h
        · rename_i hany
          obtain ⟨f', hf1, hf2⟩ := List.any_eq_true.1 hany
          have hf3 := Nat.eq_of_beq_eq_true hf2
          subst hf3
          have hfine := List.all_eq_true.1 hl f hf1
          unfold fineF at hfine
          simp only [hfn, hc, Bool.and_eq_true, Bool.not_eq_true'] at hfine
          exact ok_of_code hm hfn hc hfine.2 hfine.1 (Nat.le_of_ble_eq_true hlen) (codeL_mono ok_mono c _ _ _ endB_endL (codeB_sound ih ok_mono c n _ _ h))
        · simp only [Bool.and_eq_true, Bool.not_eq_true'] at h
          exact ok_of_prune hm hfn hc h.1 (Nat.le_of_ble_eq_true hlen) (codeL_mono ok_mono _ _ _ _ endB_endL (codeB_sound ih ok_mono _ n _ _ h.2))
      · cases h
    · cases h

end Go.Lm

/-
  The logical machine, part T: a law's row, out of its contract: it returns true, and nothing that was there has turned.
-/
namespace Go.Lm
open Go.ChangeShapes Go.WideShapes Go.ChangeAt Go.RowKit

variable {P : Program} {H : Type} {enc : TypeId × Value → H} {W W' : World}

theorem trodAll_stays (hl : laidOutB P = true) (hb : Below W.heap.size W W') : ∀ (ts : List TypeId) (vs : List Value) (ds : List (DataW H)) (ps : List MemPlace), (∀ t ∈ ts, P.readableRec t = true ∧ t < P.types.size) →
    DataW.TrodAll enc P W 0 (fun _ => true) true ts vs ds ps → (∀ x ∈ ps, x.block < W.heap.size) → DataW.TrodAll enc P W' 0 (fun b => decide (b < W.heap.size)) true ts vs ds ps
  | [], [], [], _, _, h, _ => h
  | t :: ts, v :: vs, d :: ds, ps, hr, h, hlt => by
    obtain ⟨p, q, h1, h2, rfl⟩ := h
    exact ⟨p, q, Below.trod hl (hr t (by simp)).1 (hr t (by simp)).2 h1 hb fun x hx => hlt x (by simp [hx]),
      trodAll_stays hl hb ts vs ds q (fun t ht => hr t (by simp [ht])) h2 fun x hx => hlt x (by simp [hx]), rfl⟩
  | [], _ :: _, _, _, _, h, _ => h.elim
  | [], [], _ :: _, _, _, h, _ => h.elim
  | _ :: _, [], _, _, _, h, _ => h.elim
  | _ :: _, _ :: _, [], _, _, h, _ => h.elim

/-- What a law's row says behind the call. -/
theorem post_true {f : Func} {s : ChangeSpec} {apart fresh handsOn : Bool} {args : Array Value} {ds gs : List (DataW H)} {before : List MemPlace} {t : TypeId}
    (hl : laidOutB P = true) (hr : ∀ t ∈ f.params.toList, P.readableRec t = true ∧ t < P.types.size) (hvars : s.vars = [])
    (hW : DataW.Whole enc P f.params.toList s.vars apart W args.toList ds gs before) (hres : f.resultTypes = #[t]) (ht : P.underlying t = some .bool)
    (hfn : s.fn H (ds ++ gs) = { results := [.lit (.bool true)], args := ds }) (hb : Below W.heap.size W W') :
    s.post enc P f apart fresh handsOn false W args (.bool true) W' := by
  have hlt := hW.lt
  obtain ⟨p, q, h1, h2, h3, h4, h5⟩ := hW
  have h2' := h2
  rw [hvars] at h2'
  obtain ⟨rfl, rfl⟩ := trodVars_none h2'
  simp only [List.append_nil] at h3
  subst h3
  refine ⟨ds, [], before, [], before, [], ⟨before, [], h1, h2, by simp, h4, h5⟩, ?_, ?_, ?_, hb.frame _, fun e => by cases e⟩
  · rw [hfn, hres]
    exact trodAll_mk1 (shut_bool ht true)
  · rw [hfn]
    exact trodAll_stays hl hb _ _ _ _ hr h1 hlt
  · rw [hvars, hfn]
    exact rfl

end Go.Lm

/-
  The logical machine, part U: what a call is handed, as logical values over objects that are only read.
-/
namespace Go.Lm

variable {P : Program} {W : World} {keep : Nat → Prop} {ρ : Ren} {g : LHeap} {w : World} {H : Type} {enc : TypeId × Value → H}

/-- One by one. -/
def Alls (R : TypeId → List LV → Prop) : List TypeId → List (List LV) → Prop
  | [], [] => True
  | t :: ts, ys :: yss => R t ys ∧ Alls R ts yss
  | _, _ => False
/-- Cells that are of a type. -/
def Shp (P : Program) (g : LHeap) : Nat → TypeId → List LV → Prop
  | 0, _, _ => False
  | n + 1, t, xs =>
    match P.underlying t with
    | some .bool => ∃ b, xs = [.bool b]
    | some (.int k) => ∃ i, xs = [.int k i] ∧ k.min ≤ i ∧ i ≤ k.max
    | some .string => ∃ s, xs = [.str s] ∧ s.length ≤ maxLen ∧ s.length ≤ reachBytes
    | some (.slice e) => xs = [.nils] ∨ (∃ a, xs = [.tail a 0 0 1 true]) ∨
        ∃ a len cap xss, xs = [.slice a 0 len (.ex cap)] ∧ len ≤ cap ∧ (cap ≤ maxLen ∧ cap * P.bytesOf e ≤ reachBytes) ∧ g.get a = some (.cells xss.flatten .ro) ∧ (∀ ys ∈ xss, ys.length = P.cellsOf e) ∧
          Alls (Shp P g n) (List.replicate len e) xss
    | some (.struct fs) => ∃ xss, xs = xss.flatten ∧ Alls (Shp P g n) (fs.toList.map (·.type)) xss
    | some (.array m e) => ∃ xss, xs = xss.flatten ∧ (∀ ys ∈ xss, ys.length = P.cellsOf e) ∧ Alls (Shp P g n) (List.replicate m e) xss
    | _ => False
theorem Alls.mono {R S : TypeId → List LV → Prop} (h : ∀ t ys, R t ys → S t ys) : ∀ {ts : List TypeId} {yss : List (List LV)}, Alls R ts yss → Alls S ts yss
  | [], [], _ => trivial
  | _ :: _, _ :: _, ha => ⟨h _ _ ha.1, ha.2.mono h⟩
  | [], _ :: _, ha => ha.elim
  | _ :: _, [], ha => ha.elim
theorem Shp.mono {g g' : LHeap} (h : ∀ i o, g.get i = some o → g'.get i = some o) : ∀ (n : Nat) (t : TypeId) (xs : List LV), Shp P g n t xs → Shp P g' n t xs := by
  intro n
  induction n with
  | zero => intro t xs hs; exact hs
  | succ n ih =>
    intro t xs hs
    unfold Shp at hs ⊢
    split at hs
    · exact hs
    · exact hs
    · exact hs
    · rcases hs with hs | hs | ⟨a, len, cap, xss, h1, h2, h3, h4, h5, h6⟩
      · exact .inl hs
      · exact .inr (.inl hs)
      · exact .inr (.inr ⟨a, len, cap, xss, h1, h2, h3, h _ _ h4, h5, h6.mono ih⟩)
    · obtain ⟨xss, h1, h2⟩ := hs; exact ⟨xss, h1, h2.mono ih⟩
    · obtain ⟨xss, h1, h2, h3⟩ := hs; exact ⟨xss, h1, h2, h3.mono ih⟩
    · exact hs

/-- The fields lie one behind the other. -/
def tiles (P : Program) : List Field → Nat → Option Nat
  | [], off => some off
  | f :: fs, off => if Nat.beq f.offset off then tiles P fs (off + P.cellsOf f.type) else none
/-- A type of which the import is told. -/
def plainTy (P : Program) : Nat → TypeId → Bool
  | 0, _ => false
  | n + 1, t =>
    match P.underlying t with
    | some .bool | some (.int _) | some .string => true
    | some (.slice e) => Nat.blt 0 (P.cellsOf e) && plainTy P n e
    | some (.struct fs) => (match tiles P fs.toList 0 with | some z => Nat.beq z (P.cellsOf t) | none => false) && fs.toList.all fun f => plainTy P n f.type
    | some (.array m e) => Nat.beq (m * P.cellsOf e) (P.cellsOf t) && plainTy P n e
    | _ => false

/-- From (ρ, g) to (ρ', g'): more objects, all as they were, and only to be read. -/
structure Grown (W : World) (keep : Nat → Prop) (w : World) (ρ : Ren) (g : LHeap) (ρ' : Ren) (g' : LHeap) : Prop where
  ext : Ren.Ext g.next ρ ρ'
  le : g.next ≤ g'.next
  rel : Rel W keep ρ' g' w
  get : ∀ i o, g.get i = some o → g'.get i = some o
  ro : ∀ i o, g'.get i = some o → o.mine = false
theorem Grown.refl (h : Rel W keep ρ g w) (hro : ∀ i o, g.get i = some o → o.mine = false) : Grown W keep w ρ g ρ g := ⟨Ren.Ext.refl _ _, Nat.le_refl _, h, fun _ _ h => h, hro⟩
theorem Grown.trans {ρ1 ρ2 : Ren} {g1 g2 : LHeap} (h : Grown W keep w ρ g ρ1 g1) (k : Grown W keep w ρ1 g1 ρ2 g2) : Grown W keep w ρ g ρ2 g2 :=
  ⟨h.ext.trans k.ext h.le, Nat.le_trans h.le k.le, k.rel, fun i o hi => k.get i o (h.get i o hi), k.ro⟩

/-- An object that is there to be read. -/
theorem import_row {b off : Nat} {vs : List LV} {C : Array Value} {ty : TypeId} {fz : Nat × Nat} (h : Rel W keep ρ g w) (hro : ∀ i o, g.get i = some o → o.mine = false) (hv : oks ρ g.next vs) (hc : ∀ v ∈ vs, v.cell = true)
    (hb : w.heap[b]? = some (.cells C ty fz)) (hsz : off + vs.length ≤ C.size)
    (hcell : ∀ j v, vs[j]? = some v → C[off + j]? = some (v.toV ρ)) : Grown W keep w ρ g (ρ.put g.next b off 0) (g.alloc (.cells vs .ro)) := by
  have hx := Ren.put_ext ρ g.next b off 0
  have hnew : ∀ i o, (g.alloc (.cells vs .ro)).get i = some o → (i = g.next ∧ o = .cells vs .ro) ∨ (i < g.next ∧ g.get i = some o) := by
    intro i o hi
    simp only [LHeap.get_alloc] at hi
    split at hi
    · rename_i e; cases hi; exact .inl ⟨e, rfl⟩
    · exact .inr ⟨(h.obj i o hi).1, hi⟩
  have hro' : ∀ i o, (g.alloc (.cells vs .ro)).get i = some o → o.mine = false := by
    intro i o hi
    rcases hnew i o hi with ⟨rfl, rfl⟩ | ⟨_, h2⟩
    · rfl
    · exact hro i o h2
  refine ⟨hx, by simp, ⟨h.os, h.tape, h.output, h.size, h.kept, fun i o hi => ?_, fun i j o p hi hj hij hm => ?_, fun i o hi hm => ?_⟩, fun i o hi => ?_, hro'⟩
  · rcases hnew i o hi with ⟨rfl, rfl⟩ | ⟨h1, h2⟩
    · refine ⟨by simp, oks_ext hx (by simp) vs hv, hc, C, ty, fz, by rw [Ren.put_blk]; exact hb, by rw [Ren.put_base]; exact hsz, fun j v hj => ?_, fun e => (e rfl).elim, fun e => by cases e⟩
      rw [Ren.put_base, LV.toV_ext hx v ((oks_iff _ _ _).1 hv v (List.mem_of_getElem? hj))]
      exact hcell j v hj
    · exact ⟨by simp; omega, ((h.obj i o h2).2).ext h1 hx (by simp)⟩
  · rw [hro' i o hi, hro' j p hj] at hm
    simp at hm
  · rw [hro' i o hi] at hm
    cases hm
  · have := (h.obj i o hi).1
    simp only [LHeap.get_alloc]
    rw [if_neg (by omega)]
    exact hi
/-- A number that no object bears: an empty slice points there. -/
theorem import_none {b off : Nat} {sp : Option Nat} (h : Rel W keep ρ g w) (hro : ∀ i o, g.get i = some o → o.mine = false) :
    Grown W keep w ρ g { ρ.put g.next b off 0 with spot := fun j => if j = g.next then sp else ρ.spot j } { g with next := g.next + 1 } := by
  have hx : Ren.Ext g.next ρ { ρ.put g.next b off 0 with spot := fun j => if j = g.next then sp else ρ.spot j } := fun j hj => by
    simp [Ren.put, Nat.ne_of_lt hj]
  refine ⟨hx, by simp, ⟨h.os, h.tape, h.output, h.size, h.kept, fun i o hi => ?_, fun i j o p hi hj hij hm => ?_, fun i o hi hm => ?_⟩, fun i o hi => hi, hro⟩
  · obtain ⟨h1, h2⟩ := h.obj i o hi
    exact ⟨Nat.lt_succ_of_lt h1, h2.ext h1 hx (by simp)⟩
  · rw [hro i o hi, hro j p hj] at hm
    simp at hm
  · rw [hro i o hi] at hm
    cases hm

/-- What the import of cells comes to. -/
def Imp (P : Program) (W : World) (keep : Nat → Prop) (w : World) (ρ : Ren) (g : LHeap) (n : Nat) (t : TypeId) (cs : List Value) : Prop :=
  ∃ ρ' g' xs, Grown W keep w ρ g ρ' g' ∧ toVs ρ' xs = cs ∧ oks ρ' g'.next xs ∧ (∀ v ∈ xs, v.cell = true) ∧ Shp P g' n t xs
theorem import_list {n : Nat} {L : List (TypeId × List Value)} (hl : ∀ (ρ : Ren) (g : LHeap) (t : TypeId) (cs : List Value), (t, cs) ∈ L → Rel W keep ρ g w → (∀ i o, g.get i = some o → o.mine = false) → Imp P W keep w ρ g n t cs) :
    ∀ (M : List (TypeId × List Value)), (∀ p ∈ M, p ∈ L) → ∀ (ρ : Ren) (g : LHeap), Rel W keep ρ g w → (∀ i o, g.get i = some o → o.mine = false) →
      ∃ ρ' g' xss, Grown W keep w ρ g ρ' g' ∧ xss.map (toVs ρ') = M.map (·.2) ∧ oks ρ' g'.next xss.flatten ∧ (∀ v ∈ xss.flatten, v.cell = true) ∧ Alls (Shp P g' n) (M.map (·.1)) xss := by
  intro M
  induction M with
  | nil => intro _ ρ g hr hro; exact ⟨ρ, g, [], Grown.refl hr hro, rfl, by simp [oks], by simp, trivial⟩
  | cons p M ih =>
    intro hM ρ g hr hro
    obtain ⟨ρ1, g1, xs, G1, e1, o1, c1, s1⟩ := hl ρ g p.1 p.2 (hM p (by simp)) hr hro
    obtain ⟨ρ2, g2, xss, G2, e2, o2, c2, s2⟩ := ih (fun q hq => hM q (by simp [hq])) ρ1 g1 G1.rel G1.ro
    refine ⟨ρ2, g2, xs :: xss, G1.trans G2, ?_, ?_, ?_, ?_⟩
    · simp only [List.map_cons, e2, List.cons.injEq, and_true]
      rw [toVs_ext G2.ext xs o1, e1]
    · rw [List.flatten_cons, oks_append]
      exact ⟨oks_ext G2.ext G2.le xs o1, o2⟩
    · intro v hv
      rw [List.flatten_cons, List.mem_append] at hv
      exact hv.elim (c1 v) (c2 v)
    · exact ⟨Shp.mono G2.get _ _ _ s1, s2⟩
theorem toVs_flatten (ρ : Ren) : ∀ (xss : List (List LV)), toVs ρ xss.flatten = (xss.map (toVs ρ)).flatten
  | [] => rfl
  | xs :: xss => by rw [List.flatten_cons, toVs_append, toVs_flatten ρ xss]; rfl
theorem alls_len {R : TypeId → List LV → Prop} : ∀ {ts : List TypeId} {yss : List (List LV)}, Alls R ts yss → yss.length = ts.length
  | [], [], _ => rfl
  | _ :: _, _ :: _, h => by simp [alls_len h.2]
  | [], _ :: _, h => h.elim
  | _ :: _, [], h => h.elim

/-- consecutive chunks of one size -/
theorem chunks {α : Type} (c : Nat) : ∀ (m : Nat) (l : List α), l.length = m * c → ((List.range m).map fun i => (l.drop (i * c)).take c).flatten = l
  | 0, l, h => by simp at h; simp [h]
  | m + 1, l, h => by
    rw [List.range_succ_eq_map, List.map_cons, List.flatten_cons, List.map_map]
    have := chunks c m (l.drop c) (by rw [List.length_drop, h, Nat.add_mul]; omega)
    have e : ((fun i => (l.drop (i * c)).take c) ∘ Nat.succ) = fun i => ((l.drop c).drop (i * c)).take c := by
      funext i
      simp only [Function.comp, List.drop_drop, Nat.succ_mul]
      rw [Nat.add_comm]
    rw [e, this]
    simp
theorem tiles_chunks {α : Type} : ∀ (fs : List Field) (off z : Nat) (l : List α), tiles P fs off = some z → l.length = z → ((fs.map fun f => (l.drop f.offset).take (P.cellsOf f.type)).flatten) = l.drop off
  | [], off, z, l, h, hl => by simp [tiles] at h; subst h; simp [← hl]
  | f :: fs, off, z, l, h, hl => by
    simp only [tiles] at h
    split at h
    · rename_i hb
      have he := Nat.eq_of_beq_eq_true hb
      rw [List.map_cons, List.flatten_cons, tiles_chunks fs _ z l h hl, he, ← List.drop_drop]
      exact List.take_append_drop _ _
    · cases h

theorem mem_wAll {e : TypeId} {d : DataW H} {k : Nat} : ∀ {l : List (DataW H)}, d ∈ l → k ∈ d.weights P e → k ∈ DataW.weightsAll P e l
  | [], h, _ => by cases h
  | x :: l, h, hk => by
    unfold DataW.weightsAll
    rcases List.mem_cons.1 h with rfl | h
    · exact List.mem_append.2 (.inl hk)
    · exact List.mem_append.2 (.inr (mem_wAll h hk))
theorem mem_wEach {k : Nat} : ∀ {ts : List TypeId} {l : List (DataW H)} {i : Nat} {t : TypeId} {d : DataW H}, ts[i]? = some t → l[i]? = some d → k ∈ d.weights P t → k ∈ DataW.weightsEach P ts l
  | [], _, _, _, _, h, _, _ => by simp at h
  | _ :: _, [], _, _, _, _, h, _ => by simp at h
  | t :: ts, d :: l, 0, t', d', h, h', hk => by
    simp only [List.getElem?_cons_zero, Option.some.injEq] at h h'
    subst h; subst h'
    unfold DataW.weightsEach
    exact List.mem_append.2 (.inl hk)
  | t :: ts, d :: l, i + 1, t', d', h, h', hk => by
    unfold DataW.weightsEach
    exact List.mem_append.2 (.inr (mem_wEach (i := i) (by simpa using h) (by simpa using h') hk))
theorem import_cells (n : Nat) : ∀ (m : Nat) (t : TypeId) (cs : List Value) (x : DataW H × List MemPlace) (ρ : Ren) (g : LHeap), plainTy P n t = true → DataW.trod enc P w 0 (fun _ => true) true m t cs = some x → (∀ k ∈ x.1.weights P t, k ≤ reachBytes) →
    Rel W keep ρ g w → (∀ i o, g.get i = some o → o.mine = false) → Imp P W keep w ρ g n t cs := by
  induction n with
  | zero => intro m t cs x ρ g h; cases h
  | succ n ih =>
    intro m t cs x ρ g hp hd hwt hr hro
    unfold plainTy at hp
    split at hp
    · rename_i ht
      obtain ⟨b, rfl, _⟩ := DataW.trod_bool ht hd
      exact ⟨ρ, g, [.bool b], Grown.refl hr hro, rfl, by simp [oks, LV.ok], by simp [LV.cell], by unfold Shp; rw [ht]; exact ⟨b, rfl⟩⟩
    · rename_i k ht
      obtain ⟨i, rfl, _, hw⟩ := DataW.trod_int ht hd
      simp only [Lit.wf, Bool.and_eq_true, decide_eq_true_eq] at hw
      exact ⟨ρ, g, [.int k i], Grown.refl hr hro, rfl, by simp [oks, LV.ok], by simp [LV.cell], by unfold Shp; rw [ht]; exact ⟨i, rfl, hw⟩⟩
    · rename_i ht
      obtain ⟨s, rfl, rfl, hw⟩ := DataW.trod_string ht hd
      exact ⟨ρ, g, [.str s.data.toList], Grown.refl hr hro, by simp [toVs, LV.toV], by simp [oks, LV.ok], by simp [LV.cell], by unfold Shp; rw [ht]; exact ⟨_, rfl, by rw [Array.length_toList]; exact hw, hwt _ (by simp [DataW.weights])⟩⟩
    · rename_i e ht
      simp only [Bool.and_eq_true] at hp
      obtain ⟨hc, hp⟩ := hp
      have hc : 0 < P.cellsOf e := Nat.le_of_ble_eq_true hc
      rcases DataW.trod_slice ht hd with ⟨rfl, _⟩ | ⟨a, len, cap, elems, rest, m', _, rfl, hx, _, hl, hm, hlen, hel, hsp, _⟩
      · exact ⟨ρ, g, [.nils], Grown.refl hr hro, rfl, by simp [oks, LV.ok], by simp [LV.cell], by unfold Shp; rw [ht]; exact .inl rfl⟩
      · obtain ⟨hrl, hrs⟩ := hsp rfl
        have hwx : x.1.weights P t = (elems.length + rest.length) * P.bytesOf e :: (DataW.weightsAll P e (elems.map (·.1)) ++ DataW.weightsAll P e (rest.map (·.1))) := by
          rw [hx]
          simp only [DataW.weights, ht, List.length_map]
        rw [hwx] at hwt
        have hcapw : cap * P.bytesOf e ≤ reachBytes := by
          have := hwt _ (by simp only [List.mem_cons]; exact .inl rfl)
          rwa [hlen, hrl, show len + (cap - len) = cap by omega] at this
        have hwe : ∀ y ∈ elems, ∀ k ∈ y.1.weights P e, k ≤ reachBytes := fun y hy k hk => hwt k (List.mem_cons.2 (.inr (List.mem_append.2 (.inl (mem_wAll (List.mem_map.2 ⟨y, hy, rfl⟩) hk)))))
        by_cases h0 : cap = 0
        · subst h0
          have : len = 0 := by omega
          subst this
          have G := import_none (b := a.block) (off := a.off) (sp := a.spot) hr hro
          refine ⟨_, _, [.tail g.next 0 0 1 true], G, ?_, ?_, by simp [LV.cell], by unfold Shp; rw [ht]; exact .inr (.inl ⟨_, rfl⟩)⟩
          · simp [toVs, LV.toV, Ren.taddr, Ren.zaddr, Ren.put, Addr.add]
          · simp [oks, LV.ok]
        · -- each element's cells
          have each : ∀ i, i < cap → ∃ cs' y, w.cells? 0 (a.add (i * P.cellsOf e)) (P.cellsOf e) = some cs' ∧ DataW.trod enc P w 0 (fun _ => true) true m' e cs' = some y := by
            intro i hi
            by_cases hil : i < len
            · have h1 := hel i hil
              rw [List.getElem?_eq_getElem (by omega)] at h1
              obtain ⟨cs', h2, h3⟩ := Option.bind_eq_some_iff.1 h1
              exact ⟨cs', _, h2, h3⟩
            · have h1 := hrs (i - len) (by omega)
              rw [show len + (i - len) = i by omega, List.getElem?_eq_getElem (by omega)] at h1
              obtain ⟨cs', h2, h3⟩ := Option.bind_eq_some_iff.1 h1
              exact ⟨cs', _, h2, h3⟩
          obtain ⟨cs0, y0, hcs0, _⟩ := each 0 (by omega)
          have hcell0 := (World.cells?_some hcs0).2.2 0 hc
          rw [show (a.add (0 * P.cellsOf e)).add 0 = a by simp [Addr.add]] at hcell0
          have hspot : a.spot = none := by
            unfold World.cell? at hcell0
            have : ∃ v, cs0[0]? = some v := ⟨_, List.getElem?_eq_getElem (by rw [(World.cells?_some hcs0).2.1]; exact hc)⟩
            obtain ⟨v, hv⟩ := this
            rw [hv] at hcell0
            split at hcell0
            · split at hcell0
              · cases hcell0
              · rename_i hs; simpa using hs
            · cases hcell0
          have hblk : ∃ C ty fz, w.heap[a.block]? = some (.cells C ty fz) := by
            unfold World.cell? at hcell0
            split at hcell0
            · exact ⟨_, _, _, by assumption⟩
            · have : ∃ v, cs0[0]? = some v := ⟨_, List.getElem?_eq_getElem (by rw [(World.cells?_some hcs0).2.1]; exact hc)⟩
              obtain ⟨v, hv⟩ := this
              rw [hv] at hcell0; cases hcell0
          obtain ⟨C, ty, fz, hC⟩ := hblk
          have cellAt : ∀ k, w.cell? (a.add k) = C[a.off + k]? := by
            intro k
            have hb : (a.add k).block = a.block := by unfold Addr.add; split <;> rfl
            have ho : (a.add k).off = a.off + k := by unfold Addr.add; split <;> simp_all
            have hs : (a.add k).spot = none := by unfold Addr.add; split <;> simp_all
            unfold World.cell?
            rw [hb, hC]
            simp only [hs, ho, Option.isSome_none, Bool.false_eq_true, if_false]
          have addadd : ∀ i j, (a.add i).add j = a.add (i + j) := by
            intro i j
            unfold Addr.add
            by_cases hi : i = 0 <;> by_cases hj : j = 0 <;> simp [hi, hj, Nat.add_assoc]
          let M : List (TypeId × List Value) := (List.range len).map fun i => (e, ((w.cells? 0 (a.add (i * P.cellsOf e)) (P.cellsOf e)).getD []))
          obtain ⟨ρ1, g1, xss, G1, e1, o1, c1, s1⟩ := import_list (P := P) (W := W) (keep := keep) (w := w) (L := M) (n := n) (fun ρ g t' cs' hmem hr hro => by
            obtain ⟨i, hi, heq⟩ := List.mem_map.1 hmem
            cases heq
            have hil : i < len := List.mem_range.1 hi
            have h1 := hel i hil
            rw [List.getElem?_eq_getElem (by omega)] at h1
            obtain ⟨cs'', h2, h3⟩ := Option.bind_eq_some_iff.1 h1
            rw [h2]
            exact ih m' e cs'' _ ρ g hp h3 (hwe _ (List.getElem_mem _)) hr hro) M (fun _ h => h) ρ g hr hro
          have hlens : ∀ ys ∈ xss, ys.length = P.cellsOf e := by
            intro ys hys
            obtain ⟨i, hi⟩ := List.getElem?_of_mem hys
            have h1 : (xss.map (toVs ρ1))[i]? = some (toVs ρ1 ys) := by rw [List.getElem?_map, hi]; rfl
            rw [e1] at h1
            simp only [M, List.map_map, List.getElem?_map] at h1
            obtain ⟨j, hj, h2⟩ := Option.map_eq_some_iff.1 h1
            have hj' : i < len ∧ j = i := by
              have := List.getElem?_eq_some_iff.1 hj
              obtain ⟨h3, h4⟩ := this
              simp at h3 h4
              exact ⟨h3, h4.symm⟩
            obtain ⟨cs'', y, h3, _⟩ := each j (by omega)
            simp only [Function.comp, h3, Option.getD_some] at h2
            have := (World.cells?_some h3).2.1
            rw [h2, toVs_length] at this
            exact this
          have htot : xss.flatten.length = len * P.cellsOf e := by
            have hxl : xss.length = len := by
              have := congrArg List.length e1
              simpa [M] using this
            have hsum : ∀ (l : List (List LV)), (∀ ys ∈ l, ys.length = P.cellsOf e) → l.flatten.length = l.length * P.cellsOf e := by
              intro l
              induction l with
              | nil => intro _; simp
              | cons y l ihl =>
                intro h
                rw [List.flatten_cons, List.length_append, ihl fun ys hys => h ys (by simp [hys]), h y (by simp), List.length_cons, Nat.add_mul]
                omega
            rw [hsum xss hlens, hxl]
          have hvals : ∀ j v, xss.flatten[j]? = some v → C[a.off + j]? = some (v.toV ρ1) := by
            intro j v hj
            have h1 : (toVs ρ1 xss.flatten)[j]? = some (v.toV ρ1) := by rw [toVs_eq, List.getElem?_map, hj]; rfl
            rw [toVs_flatten, e1] at h1
            have hjl : j < len * P.cellsOf e := by rw [← htot]; exact (List.getElem?_eq_some_iff.1 hj).1
            have key : ∀ j, j < len * P.cellsOf e → (M.map (·.2)).flatten[j]? = C[a.off + j]? := by
              have hM : M.map (·.2) = (List.range len).map fun i => ((List.range (len * P.cellsOf e)).map fun k => (w.cell? (a.add k)).getD default).drop (i * P.cellsOf e) |>.take (P.cellsOf e) := by
                simp only [M, List.map_map]
                refine List.map_congr_left fun i hi => ?_
                have hi := List.mem_range.1 hi
                obtain ⟨cs'', y, h3, _⟩ := each i (by omega)
                obtain ⟨_, hlen', hcl⟩ := World.cells?_some h3
                show ((w.cells? 0 (a.add (i * P.cellsOf e)) (P.cellsOf e)).getD []) = _
                rw [h3, Option.getD_some]
                apply List.ext_getElem?
                intro k
                rw [List.getElem?_take]
                by_cases hk : k < P.cellsOf e
                · rw [if_pos hk, List.getElem?_drop, List.getElem?_map, List.getElem?_range (by
                    have : (i + 1) * P.cellsOf e ≤ len * P.cellsOf e := Nat.mul_le_mul_right _ (by omega)
                    rw [Nat.add_mul] at this
                    omega)]
                  have h4 := hcl k hk
                  rw [addadd] at h4
                  rw [Option.map_some, h4, List.getElem?_eq_getElem (by omega)]
                  rfl
                · rw [if_neg hk, List.getElem?_eq_none (by omega)]
              intro j hj
              rw [hM, chunks (P.cellsOf e) len _ (by simp), List.getElem?_map, List.getElem?_range hj, Option.map_some]
              -- the j-th cell is there
              have hdiv : j / P.cellsOf e < len := (Nat.div_lt_iff_lt_mul hc).2 hj
              obtain ⟨cs'', y, h3, _⟩ := each (j / P.cellsOf e) (by omega)
              obtain ⟨_, hlen', hcl⟩ := World.cells?_some h3
              have h4 := hcl (j % P.cellsOf e) (Nat.mod_lt _ hc)
              rw [addadd, Nat.mul_comm, Nat.div_add_mod, List.getElem?_eq_getElem (by rw [hlen']; exact Nat.mod_lt _ hc)] at h4
              rw [← cellAt, h4]
              rfl
            rw [key j hjl] at h1
            exact h1
          have hsize : a.off + xss.flatten.length ≤ C.size := by
            rcases Nat.eq_zero_or_pos len with hz | hz
            · -- the first cell of the spare room is there
              rw [htot, hz, Nat.zero_mul]
              have : ∃ v, C[a.off + 0]? = some v := by
                have h2 := cellAt 0
                rw [show a.add 0 = a by simp [Addr.add], hcell0] at h2
                have h5 : ∃ v, cs0[0]? = some v := ⟨_, List.getElem?_eq_getElem (by rw [(World.cells?_some hcs0).2.1]; exact hc)⟩
                obtain ⟨v, hv⟩ := h5
                exact ⟨v, by rw [← h2, hv]⟩
              obtain ⟨v, hv⟩ := this
              have := (Array.getElem?_eq_some_iff.1 hv).1
              omega
            · rw [htot]
              have hpos : 0 < len * P.cellsOf e := Nat.mul_pos hz hc
              have hlast : ∃ v, xss.flatten[len * P.cellsOf e - 1]? = some v := ⟨_, List.getElem?_eq_getElem (by rw [htot]; omega)⟩
              obtain ⟨v, hv⟩ := hlast
              have := (Array.getElem?_eq_some_iff.1 (hvals _ _ hv)).1
              omega
          have G2 := import_row (b := a.block) (off := a.off) G1.rel G1.ro o1 c1 hC hsize hvals
          refine ⟨_, _, [.slice g1.next 0 len (.ex cap)], G1.trans G2, ?_, ?_, by simp [LV.cell], ?_⟩
          · simp only [toVs, LV.toV, Ren.addr, Ren.put_blk, Ren.put_base, Nat.add_zero]
            obtain ⟨ab, ao, asp⟩ := a
            simp only at hspot
            rw [hspot]
          · simp only [oks, LV.ok, LHeap.next_alloc]
            exact ⟨⟨by omega, hl⟩, trivial⟩
          · unfold Shp
            rw [ht]
            refine .inr (.inr ⟨g1.next, len, cap, xss, rfl, hl, ⟨hm, hcapw⟩, by simp, hlens, ?_⟩)
            have := s1.mono (fun t ys hs => Shp.mono G2.get n t ys hs)
            have hM1 : M.map (·.1) = List.replicate len e := by
              simp only [M, List.map_map]
              apply List.ext_getElem?
              intro i
              simp only [List.getElem?_map, List.getElem?_replicate]
              by_cases hi : i < len
              · rw [List.getElem?_range hi, if_pos hi]; rfl
              · rw [List.getElem?_eq_none (by simpa using hi), if_neg hi]; rfl
            rw [hM1] at this
            exact this
    · rename_i fs ht
      simp only [Bool.and_eq_true] at hp
      obtain ⟨hp1, hp2⟩ := hp
      split at hp1
      · rename_i z hz
        have hz' := Nat.eq_of_beq_eq_true hp1
        obtain ⟨xs, m', _, hx, hlen, hxl, hel⟩ := DataW.trod_struct ht hd
        have hwx : x.1.weights P t = DataW.weightsEach P (fs.toList.map (·.type)) (xs.map (·.1)) := by
          rw [hx]
          simp only [DataW.weights, ht]
        rw [hwx] at hwt
        let M : List (TypeId × List Value) := fs.toList.map fun f => (f.type, (cs.drop f.offset).take (P.cellsOf f.type))
        obtain ⟨ρ1, g1, xss, G1, e1, o1, c1, s1⟩ := import_list (P := P) (W := W) (keep := keep) (w := w) (L := M) (n := n) (fun ρ g t' cs' hmem hr hro => by
          obtain ⟨f, hf, heq⟩ := List.mem_map.1 hmem
          cases heq
          obtain ⟨i, hi⟩ := List.getElem?_of_mem hf
          have hi' : fs[i]? = some f := by simpa using hi
          have h1 := hel i f hi'
          have hilt : i < xs.length := by rw [hxl]; exact (Array.getElem?_eq_some_iff.1 hi').1
          rw [List.getElem?_eq_getElem hilt] at h1
          exact ih m' f.type _ _ ρ g (List.all_eq_true.1 hp2 f hf) h1 (fun k hk => hwt k (mem_wEach (i := i) (by rw [List.getElem?_map, hi]; rfl) (by rw [List.getElem?_map, List.getElem?_eq_getElem hilt]; rfl) hk)) hr hro) M (fun _ h => h) ρ g hr hro
        refine ⟨ρ1, g1, xss.flatten, G1, ?_, o1, c1, ?_⟩
        · rw [toVs_flatten, e1]
          have := tiles_chunks (P := P) fs.toList 0 z cs hz (by rw [hlen, hz'])
          simpa [M, List.map_map, Function.comp_def] using this
        · unfold Shp
          rw [ht]
          refine ⟨xss, rfl, ?_⟩
          have hM1 : M.map (·.1) = fs.toList.map (·.type) := by simp [M, List.map_map, Function.comp_def]
          rw [hM1] at s1
          exact s1
      · cases hp1
    · rename_i k e ht
      simp only [Bool.and_eq_true] at hp
      obtain ⟨hp1, hp2⟩ := hp
      have hz' := Nat.eq_of_beq_eq_true hp1
      obtain ⟨xs, m', _, hx, hlen, hxl, hel⟩ := DataW.trod_array ht hd
      have hwx : x.1.weights P t = DataW.weightsAll P e (xs.map (·.1)) := by
        rw [hx]
        simp only [DataW.weights, ht]
      rw [hwx] at hwt
      let M : List (TypeId × List Value) := (List.range k).map fun i => (e, (cs.drop (i * P.cellsOf e)).take (P.cellsOf e))
      obtain ⟨ρ1, g1, xss, G1, e1, o1, c1, s1⟩ := import_list (P := P) (W := W) (keep := keep) (w := w) (L := M) (n := n) (fun ρ g t' cs' hmem hr hro => by
        obtain ⟨i, hi, heq⟩ := List.mem_map.1 hmem
        cases heq
        have hi := List.mem_range.1 hi
        have h1 := hel i hi
        rw [List.getElem?_eq_getElem (by omega)] at h1
        exact ih m' e _ _ ρ g hp2 h1 (fun k hk => hwt k (mem_wAll (List.mem_map.2 ⟨_, List.getElem_mem _, rfl⟩) hk)) hr hro) M (fun _ h => h) ρ g hr hro
      have hfl : (M.map (·.2)).flatten = cs := by
        have := chunks (P.cellsOf e) k cs (by rw [hlen, hz'])
        simpa [M, List.map_map, Function.comp_def] using this
      refine ⟨ρ1, g1, xss.flatten, G1, ?_, o1, c1, ?_⟩
      · rw [toVs_flatten, e1, hfl]
      · unfold Shp
        rw [ht]
        refine ⟨xss, rfl, ?_, ?_⟩
        · intro ys hys
          obtain ⟨i, hi⟩ := List.getElem?_of_mem hys
          have h1 : (xss.map (toVs ρ1))[i]? = some (toVs ρ1 ys) := by rw [List.getElem?_map, hi]; rfl
          rw [e1] at h1
          simp only [M, List.map_map, List.getElem?_map] at h1
          obtain ⟨j, hj, h2⟩ := Option.map_eq_some_iff.1 h1
          obtain ⟨h3, h4⟩ := List.getElem?_eq_some_iff.1 hj
          simp at h3 h4
          subst h4
          have h5 := congrArg List.length h2
          simp only [Function.comp, List.length_take, List.length_drop, toVs_length] at h5
          have : (i + 1) * P.cellsOf e ≤ k * P.cellsOf e := Nat.mul_le_mul_right _ (by omega)
          rw [Nat.add_mul] at this
          omega
        · have hM1 : M.map (·.1) = List.replicate k e := by
            simp only [M, List.map_map]
            apply List.ext_getElem?
            intro i
            simp only [List.getElem?_map, List.getElem?_replicate]
            by_cases hi : i < k
            · rw [List.getElem?_range hi, if_pos hi]; rfl
            · rw [List.getElem?_eq_none (by simpa using hi), if_neg hi]; rfl
          rw [hM1] at s1
          exact s1
    · cases hp

/-! ### The arguments of a law -/
def aggTy (P : Program) (t : TypeId) : Bool :=
  match P.underlying t with
  | some (.struct _) | some (.array _ _) => true
  | _ => false
def ShpArgs (P : Program) (g : LHeap) (n : Nat) : List TypeId → List LV → Prop
  | [], [] => True
  | t :: ts, x :: xs => (Shp P g n t x.cells ∧ (if aggTy P t then ∃ cs, x = .agg cs else x.cell = true)) ∧ ShpArgs P g n ts xs
  | _, _ => False
theorem ShpArgs.mono {g g' : LHeap} {n : Nat} (h : ∀ i o, g.get i = some o → g'.get i = some o) : ∀ {ts : List TypeId} {xs : List LV}, ShpArgs P g n ts xs → ShpArgs P g' n ts xs
  | [], [], _ => trivial
  | _ :: _, _ :: _, hs => ⟨⟨Shp.mono h _ _ _ hs.1.1, hs.1.2⟩, hs.2.mono h⟩
  | [], _ :: _, hs => hs.elim
  | _ :: _, [], hs => hs.elim

theorem import_arg {n base : Nat} {t : TypeId} {v : Value} {d : DataW H} {ps : List MemPlace} (hp : plainTy P n t = true) (hd : DataW.Trod enc P w 0 (fun _ => true) true t v d ps) (hwt : ∀ k ∈ d.weights P t, k ≤ reachBytes) (hv : Value.okWide P w .any base t v)
    (hr : Rel W keep ρ g w) (hro : ∀ i o, g.get i = some o → o.mine = false) :
    ∃ (ρ' : Ren) (g' : LHeap) (x : LV), Grown W keep w ρ g ρ' g' ∧ x.toV ρ' = v ∧ x.ok ρ' g'.next ∧ Shp P g' n t x.cells ∧ (if aggTy P t then ∃ cs, x = .agg cs else x.cell = true) := by
  obtain ⟨m, hm⟩ := hd
  obtain ⟨ρ', g', xs, G, e, o, c, s⟩ := import_cells n m t _ _ ρ g hp hm hwt hr hro
  by_cases ha : aggTy P t = true
  · have hagg : ∃ cs, v = .agg cs := by
      unfold aggTy at ha
      unfold Value.okWide at hv
      split at ha
      · rename_i h; rw [h] at hv; obtain ⟨cs, h1, _⟩ := hv; exact ⟨cs, h1⟩
      · rename_i h; rw [h] at hv; obtain ⟨cs, h1, _⟩ := hv; exact ⟨cs, h1⟩
      · cases ha
    obtain ⟨cs, rfl⟩ := hagg
    refine ⟨ρ', g', .agg xs, G, ?_, by simpa only [LV.ok] using o, s, by rw [if_pos ha]; exact ⟨xs, rfl⟩⟩
    simp only [LV.toV, e]
    simp [Value.cells]
  · have hone : ∃ x, xs = [x] := by
      cases n with
      | zero => exact s.elim
      | succ n =>
        unfold Shp at s
        unfold aggTy at ha
        split at s
        · obtain ⟨b, rfl⟩ := s; exact ⟨_, rfl⟩
        · obtain ⟨b, rfl, _⟩ := s; exact ⟨_, rfl⟩
        · obtain ⟨b, rfl, _⟩ := s; exact ⟨_, rfl⟩
        · rcases s with rfl | ⟨a, rfl⟩ | ⟨a, len, cap, xss, rfl, _⟩ <;> exact ⟨_, rfl⟩
        · rename_i h; rw [h] at ha; exact (ha rfl).elim
        · rename_i h; rw [h] at ha; exact (ha rfl).elim
        · exact s.elim
    obtain ⟨x, rfl⟩ := hone
    have hcell := c x (by simp)
    refine ⟨ρ', g', x, G, ?_, o.1, ?_, by rw [if_neg ha]; exact hcell⟩
    · have hnot : ∀ cs, v ≠ .agg cs := by
        intro cs hcs
        subst hcs
        unfold aggTy at ha
        unfold Value.okWide at hv
        split at hv
        · rename_i h; rw [h] at ha; exact ha rfl
        · rename_i h; rw [h] at ha; exact ha rfl
        · unfold Cell.okWide at hv
          split at hv <;> first | cases ‹Value.agg cs = _› | skip
          all_goals (try (rename_i h; cases h; done))
          unfold Cell.ok at hv
          split at hv <;> simp_all
      have hvc : v.cells.toList = [v] := by
        cases v with
        | agg cs => exact absurd rfl (hnot cs)
        | _ => rfl
      rw [hvc] at e
      simpa [toVs] using e
    · have : x.cells = [x] := by
        cases x with
        | agg cs => cases hcell
        | _ => rfl
      rw [this]; exact s

theorem import_args {n base : Nat} : ∀ (ts : List TypeId) (vs : List Value) (ds : List (DataW H)) (ps : List MemPlace) (ρ : Ren) (g : LHeap), (∀ t ∈ ts, plainTy P n t = true) →
    DataW.TrodAll enc P w 0 (fun _ => true) true ts vs ds ps → (∀ k ∈ DataW.weightsEach P ts ds, k ≤ reachBytes) → (∀ (j : Nat) t v, ts[j]? = some t → vs[j]? = some v → Value.okWide P w .any base t v) → Rel W keep ρ g w → (∀ i o, g.get i = some o → o.mine = false) →
    ∃ ρ' g' xs, Grown W keep w ρ g ρ' g' ∧ toVs ρ' xs = vs ∧ oks ρ' g'.next xs ∧ ShpArgs P g' n ts xs
  | [], [], _, _, ρ, g, _, _, _, _, hr, hro => ⟨ρ, g, [], Grown.refl hr hro, rfl, by simp [oks], trivial⟩
  | t :: ts, v :: vs, d :: ds, ps, ρ, g, hp, hd, hwt, hv, hr, hro => by
    obtain ⟨p, q, h1, h2, _⟩ := hd
    obtain ⟨ρ1, g1, x, G1, e1, o1, s1, a1⟩ := import_arg (hp t (by simp)) h1 (fun k hk => hwt k (by unfold DataW.weightsEach; exact List.mem_append.2 (.inl hk))) (hv 0 t v rfl rfl) hr hro
    obtain ⟨ρ2, g2, xs, G2, e2, o2, s2⟩ := import_args ts vs ds q ρ1 g1 (fun t ht => hp t (by simp [ht])) h2 (fun k hk => hwt k (by unfold DataW.weightsEach; exact List.mem_append.2 (.inr hk))) (fun j t v ht hv' => hv (j + 1) t v (by simpa using ht) (by simpa using hv')) G1.rel G1.ro
    refine ⟨ρ2, g2, x :: xs, G1.trans G2, ?_, ⟨LV.ok_ext G2.ext G2.le x o1, o2⟩, ⟨Shp.mono G2.get _ _ _ s1, a1⟩, s2⟩
    simp only [toVs, e2, LV.toV_ext G2.ext x o1, e1]
  | [], _ :: _, _, _, _, _, _, h, _, _, _, _ => h.elim
  | _ :: _, [], _, _, _, _, _, h, _, _, _, _ => h.elim
  | _ :: _, _ :: _, [], _, _, _, _, h, _, _, _, _ => h.elim

/-- The call that a law's row tells of, out of its contract. -/
theorem law_calls {n base : Nat} {f : FuncId} {ts : List TypeId} {args : Array Value} {ds : List (DataW H)} {ps : List MemPlace} (hp : ts.all (plainTy P n) = true)
    (hd : DataW.TrodAll enc P W 0 (fun _ => true) true ts args.toList ds ps) (hwt : (DataW.weightsEach P ts ds).all (· ≤ reachBytes) = true) (hv : ∀ (j : Nat) t v, ts[j]? = some t → args[j]? = some v → Value.okWide P W .any base t v)
    (h : ∀ g xs, (∀ i o, g.get i = some o → o.mine = false) → ShpArgs P g n ts xs → Ok P f xs g fun v _ => v = .bool true) :
    Calls P f args W fun e W' => e = .returned (.bool true) ∧ RowKit.Below W.heap.size W W' := by
  obtain ⟨ρ, g, xs, G, e, o, s⟩ := import_args (W := W) (keep := fun b => b < W.heap.size) ts args.toList ds ps ⟨fun _ => 0, fun _ => 0, fun _ => 0, fun _ => none⟩ (emp 0) (fun t ht => List.all_eq_true.1 hp t ht) hd (fun k hk => of_decide_eq_true (List.all_eq_true.1 hwt k hk))
    (fun j t v ht hv' => hv j t v ht (by simpa using hv')) (rel_emp W _ 0) (fun i o hi => by simp [emp] at hi)
  have := (h g xs G.ro s).enter G.rel o fun v g' hv => hv
  rw [e] at this
  simpa using this

end Go.Lm

/-
  The logical machine, part V: a call that never looks at the objects that it is handed may be computed whatever their numbers.
-/
namespace Go.Lm

variable {P : Program} {W : World} {keep : Nat → Prop} {ρ : Ren} {g : LHeap} {w : World}

mutual
/-- Other numbers for the objects. -/
def LV.ren (s : Nat → Nat) : LV → LV
  | .ptr a off => .ptr (s a) off
  | .slice a off len c => .slice (s a) off len c
  | .tail a off alt e z => .tail (s a) off alt e z
  | .map a => .map (s a)
  | .yield a => .yield (s a)
  | .func fn first caps => .func fn (rens s first) (rens s caps)
  | .iface t v => .iface t (v.ren s)
  | .agg cs => .agg (rens s cs)
  | .tuple vs => .tuple (rens s vs)
  | v => v
def rens (s : Nat → Nat) : List LV → List LV
  | [] => []
  | v :: vs => v.ren s :: rens s vs
end
mutual
/-- The objects' numbers are below k. -/
def LV.under (k : Nat) : LV → Bool
  | .ptr a _ | .slice a _ _ _ | .tail a _ _ _ _ | .map a | .yield a => Nat.blt a k
  | .func _ first caps => unders k first && unders k caps
  | .iface _ v => v.under k
  | .agg cs => unders k cs
  | .tuple vs => unders k vs
  | _ => true
def unders (k : Nat) : List LV → Bool
  | [] => true
  | v :: vs => v.under k && unders k vs
end
def Ren.comp (ρ : Ren) (s : Nat → Nat) : Ren := ⟨fun i => ρ.blk (s i), fun i => ρ.base (s i), fun i => ρ.cap (s i), fun i => ρ.spot (s i)⟩
mutual
theorem LV.toV_ren (ρ : Ren) (s : Nat → Nat) : (v : LV) → v.toV (ρ.comp s) = (v.ren s).toV ρ
  | .ptr _ _ => rfl
  | .slice _ _ _ (.ex _) => rfl
  | .slice _ _ _ (.op _) => rfl
  | .tail _ _ _ _ _ => rfl
  | .map _ => rfl
  | .yield _ => rfl
  | .func _ first caps => by simp only [LV.toV, LV.ren, toVs_ren ρ s first, toVs_ren ρ s caps]
  | .iface _ v => by simp only [LV.toV, LV.ren, v.toV_ren ρ s]
  | .agg cs => by simp only [LV.toV, LV.ren, toVs_ren ρ s cs]
  | .tuple cs => by simp only [LV.toV, LV.ren, toVs_ren ρ s cs]
  | .bool _ | .int _ _ | .str _ | .nilp | .nils | .nilm | .nilf | .nili => by simp only [LV.toV, LV.ren]
theorem toVs_ren (ρ : Ren) (s : Nat → Nat) : (v : List LV) → toVs (ρ.comp s) v = toVs ρ (rens s v)
  | [] => rfl
  | v :: vs => by simp only [toVs, rens, v.toV_ren ρ s, toVs_ren ρ s vs]
end
mutual
theorem LV.ok_ren {n k : Nat} (s : Nat → Nat) : (v : LV) → v.under k = true → (v.ren s).ok ρ n → v.ok (ρ.comp s) k
  | .ptr a _, h, _ => by simp only [LV.under] at h; simp only [LV.ok]; exact Nat.le_of_ble_eq_true h
  | .slice a _ _ (.ex _), h, hl => by simp only [LV.under] at h; exact ⟨Nat.le_of_ble_eq_true h, hl.2⟩
  | .slice a _ _ (.op _), h, hl => by simp only [LV.under] at h; exact ⟨Nat.le_of_ble_eq_true h, hl.2⟩
  | .tail a _ _ _ _, h, hl => by simp only [LV.under] at h; exact ⟨Nat.le_of_ble_eq_true h, hl.2⟩
  | .map a, h, _ => by simp only [LV.under] at h; simp only [LV.ok]; exact Nat.le_of_ble_eq_true h
  | .yield a, h, _ => by simp only [LV.under] at h; simp only [LV.ok]; exact Nat.le_of_ble_eq_true h
  | .func _ first caps, h, hl => by
    simp only [LV.under, Bool.and_eq_true] at h
    exact ⟨oks_ren s first h.1 hl.1, oks_ren s caps h.2 hl.2⟩
  | .iface _ v, h, hl => by simp only [LV.under] at h; simp only [LV.ok, LV.ren] at hl ⊢; exact v.ok_ren s h hl
  | .agg cs, h, hl => by simp only [LV.under] at h; simp only [LV.ok, LV.ren] at hl ⊢; exact oks_ren s cs h hl
  | .tuple cs, h, hl => by simp only [LV.under] at h; simp only [LV.ok, LV.ren] at hl ⊢; exact oks_ren s cs h hl
  | .bool _, _, _ | .int _ _, _, _ | .str _, _, _ | .nilp, _, _ | .nils, _, _ | .nilm, _, _ | .nilf, _, _ | .nili, _, _ => by simp only [LV.ok]
theorem oks_ren {n k : Nat} (s : Nat → Nat) : (v : List LV) → unders k v = true → oks ρ n (rens s v) → oks (ρ.comp s) k v
  | [], _, _ => by simp [oks]
  | v :: vs, h, hl => by
    simp only [unders, Bool.and_eq_true] at h
    exact ⟨v.ok_ren s h.1 hl.1, oks_ren s vs h.2 hl.2⟩
end

/-- What it is handed it hands on at most; it gives back nothing that names an object. -/
theorem Ok.blind {f : FuncId} {args : List LV} {k : Nat} {K : LV → LHeap → Prop} (s : Nat → Nat) (h : Ok P f args (emp k) K) (hk : unders k args = true) (hv : ∀ v g0, K v g0 → v.flat = true) :
    Ok P f (rens s args) g fun v g' => g' = g ∧ ∃ g0, K v g0 := by
  refine ⟨h.1, fun W keep ρ w hrel ha => ?_⟩
  have := h.2 w _ (ρ.comp s) w (rel_emp w _ k) (oks_ren s args hk ha)
  rw [toVs_ren] at this
  refine this.mono ?_
  rintro e w' ⟨v, g0, ρ', h1, h2, h3⟩
  have hf := hv _ _ h3
  refine ⟨v, g, ρ, by rw [h1, LV.flat_toV (ρ := ρ) v hf], ⟨Ren.Ext.refl _ _, ?_, LV.flat_ok v hf, Nat.le_refl _⟩, rfl, g0, h3⟩
  refine ⟨h2.rel.os.trans hrel.os, h2.rel.tape.trans hrel.tape, h2.rel.output.trans hrel.output, Nat.le_trans hrel.size h2.rel.size, fun b hb => ?_, fun i o hi => ?_, hrel.inj, hrel.mine⟩
  · obtain ⟨k1, k2⟩ := hrel.kept b hb
    exact ⟨k1, (h2.rel.kept b (Nat.lt_of_lt_of_le k1 hrel.size)).2.trans k2⟩
  · obtain ⟨k1, k2⟩ := hrel.obj i o hi
    exact ⟨k1, k2.heap (h2.rel.kept _ k2.lt).2⟩

/-- The answer is true. -/
def isTrue : LV → LHeap → Bool := fun v _ => match v with
  | .bool b => b
  | _ => false
theorem isTrue_eq {v : LV} {g : LHeap} (h : isTrue v g = true) : v = .bool true := by
  cases v with
  | bool b => cases b with
    | true => rfl
    | false => cases h
  | _ => cases h
/-- Computed, whatever objects are handed in and never looked at. -/
theorem blind_true (hm : P.follows .mixedOrders = true) {l : List FuncId} (hl : l.all (fineF P) = true) {n k : Nat} {f : FuncId} {args : List LV} (s : Nat → Nat) (hk : unders k args = true) (h : callB P l n f args (emp k) isTrue = true) :
    Ok P f (rens s args) g fun v _ => v = .bool true :=
  (Ok.blind (g := g) s ((callB_sound hm hl n).call f args (emp k) isTrue h) hk fun v g0 h => by rw [isTrue_eq h]; rfl).mono fun _ _ ⟨_, _, h⟩ => isTrue_eq h

/-! ### What is handed in, argument by argument -/
section
variable {t : TypeId} {ts : List TypeId} {n : Nat} {xs : List LV}
theorem shp_nil (h : ShpArgs P g n [] xs) : xs = [] := by
  cases xs with
  | nil => rfl
  | cons x xs => exact h.elim
theorem shp_one {R : List LV → Prop} (ha : aggTy P t = false) (hR : ∀ ys, Shp P g n t ys → R ys) (h : ShpArgs P g n (t :: ts) xs) : ∃ x ys, xs = x :: ys ∧ R [x] ∧ ShpArgs P g n ts ys := by
  cases xs with
  | nil => exact h.elim
  | cons x xs =>
    obtain ⟨⟨h1, h2⟩, h3⟩ := h
    rw [if_neg (by simp [ha])] at h2
    have : x.cells = [x] := by cases x <;> first | rfl | cases h2
    rw [this] at h1
    exact ⟨x, xs, rfl, hR _ h1, h3⟩
theorem shp_int {k : IntKind} (ht : P.underlying t = some (.int k)) (h : ShpArgs P g (n + 1) (t :: ts) xs) : ∃ i ys, xs = .int k i :: ys ∧ k.min ≤ i ∧ i ≤ k.max ∧ ShpArgs P g (n + 1) ts ys := by
  obtain ⟨x, ys, rfl, ⟨i, e, h1, h2⟩, h3⟩ := shp_one (R := fun ys => ∃ i, ys = [.int k i] ∧ k.min ≤ i ∧ i ≤ k.max) (by simp [aggTy, ht]) (fun ys hs => by unfold Shp at hs; rw [ht] at hs; exact hs) h
  cases e
  exact ⟨i, ys, rfl, h1, h2, h3⟩
theorem shp_bool (ht : P.underlying t = some .bool) (h : ShpArgs P g (n + 1) (t :: ts) xs) : ∃ b ys, xs = .bool b :: ys ∧ ShpArgs P g (n + 1) ts ys := by
  obtain ⟨x, ys, rfl, ⟨i, e⟩, h3⟩ := shp_one (R := fun ys => ∃ i, ys = [.bool i]) (by simp [aggTy, ht]) (fun ys hs => by unfold Shp at hs; rw [ht] at hs; exact hs) h
  cases e
  exact ⟨i, ys, rfl, h3⟩
theorem shp_str (ht : P.underlying t = some .string) (h : ShpArgs P g (n + 1) (t :: ts) xs) : ∃ s ys, xs = .str s :: ys ∧ (s.length ≤ maxLen ∧ s.length ≤ reachBytes) ∧ ShpArgs P g (n + 1) ts ys := by
  obtain ⟨x, ys, rfl, ⟨i, e, h1⟩, h3⟩ := shp_one (R := fun ys => ∃ s, ys = [.str s] ∧ s.length ≤ maxLen ∧ s.length ≤ reachBytes) (by simp [aggTy, ht]) (fun ys hs => by unfold Shp at hs; rw [ht] at hs; exact hs) h
  cases e
  exact ⟨i, ys, rfl, h1, h3⟩
theorem shp_slice {e : TypeId} (ht : P.underlying t = some (.slice e)) (h : ShpArgs P g (n + 1) (t :: ts) xs) :
    ∃ x ys, xs = x :: ys ∧ (x = .nils ∨ (∃ a, x = .tail a 0 0 1 true) ∨ ∃ a len cap xss, x = .slice a 0 len (.ex cap) ∧ len ≤ cap ∧ (cap ≤ maxLen ∧ cap * P.bytesOf e ≤ reachBytes) ∧ g.get a = some (.cells xss.flatten .ro) ∧ (∀ ys ∈ xss, ys.length = P.cellsOf e) ∧
      Alls (Shp P g n) (List.replicate len e) xss) ∧ ShpArgs P g (n + 1) ts ys := by
  obtain ⟨x, ys, rfl, h1, h3⟩ := shp_one (R := fun xs => xs = [.nils] ∨ (∃ a, xs = [.tail a 0 0 1 true]) ∨ ∃ a len cap xss, xs = [.slice a 0 len (.ex cap)] ∧ len ≤ cap ∧ (cap ≤ maxLen ∧ cap * P.bytesOf e ≤ reachBytes) ∧ g.get a = some (.cells xss.flatten .ro) ∧ (∀ ys ∈ xss, ys.length = P.cellsOf e) ∧
      Alls (Shp P g n) (List.replicate len e) xss) (by simp [aggTy, ht]) (fun ys hs => by unfold Shp at hs; rw [ht] at hs; exact hs) h
  refine ⟨x, ys, rfl, ?_, h3⟩
  rcases h1 with e | ⟨a, e⟩ | ⟨a, len, cap, xss, e, h2⟩
  · cases e; exact .inl rfl
  · cases e; exact .inr (.inl ⟨a, rfl⟩)
  · cases e; exact .inr (.inr ⟨a, len, cap, xss, rfl, h2⟩)
theorem shp_struct {fs : Array Field} (ht : P.underlying t = some (.struct fs)) (h : ShpArgs P g (n + 1) (t :: ts) xs) : ∃ xss ys, xs = .agg xss.flatten :: ys ∧ Alls (Shp P g n) (fs.toList.map (·.type)) xss ∧ ShpArgs P g (n + 1) ts ys := by
  cases xs with
  | nil => exact h.elim
  | cons x xs =>
    obtain ⟨⟨h1, h2⟩, h3⟩ := h
    rw [if_pos (by simp [aggTy, ht])] at h2
    obtain ⟨cs, rfl⟩ := h2
    unfold Shp at h1
    rw [ht] at h1
    obtain ⟨xss, h1, h4⟩ := h1
    simp only [LV.cells] at h1
    subst h1
    exact ⟨xss, xs, rfl, h4, h3⟩
theorem alls_int {k : IntKind} {yss : List (List LV)} (ht : P.underlying t = some (.int k)) (h : Alls (Shp P g (n + 1)) (t :: ts) yss) : ∃ i zss, yss = [.int k i] :: zss ∧ k.min ≤ i ∧ i ≤ k.max ∧ Alls (Shp P g (n + 1)) ts zss := by
  cases yss with
  | nil => exact h.elim
  | cons y yss =>
    obtain ⟨h1, h2⟩ := h
    unfold Shp at h1
    rw [ht] at h1
    obtain ⟨i, rfl, h3, h4⟩ := h1
    exact ⟨i, yss, rfl, h3, h4, h2⟩
theorem alls_bool {yss : List (List LV)} (ht : P.underlying t = some .bool) (h : Alls (Shp P g (n + 1)) (t :: ts) yss) : ∃ i zss, yss = [.bool i] :: zss ∧ Alls (Shp P g (n + 1)) ts zss := by
  cases yss with
  | nil => exact h.elim
  | cons y yss =>
    obtain ⟨h1, h2⟩ := h
    unfold Shp at h1
    rw [ht] at h1
    obtain ⟨i, rfl⟩ := h1
    exact ⟨i, yss, rfl, h2⟩
theorem alls_str {yss : List (List LV)} (ht : P.underlying t = some .string) (h : Alls (Shp P g (n + 1)) (t :: ts) yss) : ∃ s zss, yss = [.str s] :: zss ∧ (s.length ≤ maxLen ∧ s.length ≤ reachBytes) ∧ Alls (Shp P g (n + 1)) ts zss := by
  cases yss with
  | nil => exact h.elim
  | cons y yss =>
    obtain ⟨h1, h2⟩ := h
    unfold Shp at h1
    rw [ht] at h1
    obtain ⟨i, rfl, h3⟩ := h1
    exact ⟨i, yss, rfl, h3, h2⟩
theorem alls_struct {fs : Array Field} {yss : List (List LV)} (ht : P.underlying t = some (.struct fs)) (h : Alls (Shp P g (n + 1)) (t :: ts) yss) : ∃ xss zss, yss = xss.flatten :: zss ∧ Alls (Shp P g n) (fs.toList.map (·.type)) xss ∧ Alls (Shp P g (n + 1)) ts zss := by
  cases yss with
  | nil => exact h.elim
  | cons y yss =>
    obtain ⟨h1, h2⟩ := h
    unfold Shp at h1
    rw [ht] at h1
    obtain ⟨xss, rfl, h3⟩ := h1
    exact ⟨xss, yss, rfl, h3, h2⟩
theorem alls_slice {e : TypeId} {yss : List (List LV)} (ht : P.underlying t = some (.slice e)) (h : Alls (Shp P g (n + 1)) (t :: ts) yss) :
    ∃ x zss, yss = [x] :: zss ∧ (x = .nils ∨ (∃ a, x = .tail a 0 0 1 true) ∨ ∃ a len cap xss, x = .slice a 0 len (.ex cap) ∧ len ≤ cap ∧ (cap ≤ maxLen ∧ cap * P.bytesOf e ≤ reachBytes) ∧ g.get a = some (.cells xss.flatten .ro) ∧ (∀ ys ∈ xss, ys.length = P.cellsOf e) ∧
      Alls (Shp P g n) (List.replicate len e) xss) ∧ Alls (Shp P g (n + 1)) ts zss := by
  cases yss with
  | nil => exact h.elim
  | cons y yss =>
    obtain ⟨h1, h2⟩ := h
    unfold Shp at h1
    rw [ht] at h1
    rcases h1 with e | ⟨a, e⟩ | ⟨a, len, cap, xss, e, h3⟩
    · exact ⟨_, yss, by rw [e], .inl rfl, h2⟩
    · exact ⟨_, yss, by rw [e], .inr (.inl ⟨a, rfl⟩), h2⟩
    · exact ⟨_, yss, by rw [e], .inr (.inr ⟨a, len, cap, xss, rfl, h3⟩), h2⟩
theorem alls_nil {yss : List (List LV)} {R : TypeId → List LV → Prop} (h : Alls R [] yss) : yss = [] := by
  cases yss with
  | nil => rfl
  | cons y yss => exact h.elim
end

end Go.Lm

/-
  The logical machine, part W: the same meaning of code, in the shape in which it is read by hand: a guard keeps what follows it in one piece.
-/
namespace Go.Lm

variable {P : Program} {W : World} {keep : Nat → Prop} {ρ : Ren} {g : LHeap} {w : World}

/-- A guarded operation: carried out where the guard is as it wants it, else it yields nothing of use. -/
def gd (c : LV) (want : Bool) (g : LHeap) (op : (LV → LHeap → Prop) → Prop) (K : LV → LHeap → Prop) : Prop :=
  match c with
  | .bool b => if b = want then op K else K undefL g
  | .tuple [] => K undefL g
  | _ => False
@[simp] theorem gd_true (g : LHeap) (op : (LV → LHeap → Prop) → Prop) (K : LV → LHeap → Prop) : gd (.bool true) true g op K = op K := by simp [gd]
@[simp] theorem gd_false (g : LHeap) (op : (LV → LHeap → Prop) → Prop) (K : LV → LHeap → Prop) : gd (.bool false) true g op K = K undefL g := by simp [gd]
@[simp] theorem gd_true' (g : LHeap) (op : (LV → LHeap → Prop) → Prop) (K : LV → LHeap → Prop) : gd (.bool true) false g op K = K undefL g := by simp [gd]
@[simp] theorem gd_false' (g : LHeap) (op : (LV → LHeap → Prop) → Prop) (K : LV → LHeap → Prop) : gd (.bool false) false g op K = op K := by simp [gd]

def step2 (P : Program) (C : CallSem) (ops : Array Oper) (o : Oper) (st : LSt) (K : LSt → Prop) : Prop :=
  match o.guard with
  | none => opL P C st.tm o st.g fun v g => K ⟨putL st.tm o.dst v, g⟩
  | some (j, want) =>
    match (ops[j]?).bind (·.dst) with
    | none => False
    | some d => gd (st.tm d) want st.g (fun K => opL P C st.tm o st.g K) fun v g => K ⟨putL st.tm o.dst v, g⟩
theorem step2_sound {C : CallSem} {ops : Array Oper} {o : Oper} {st : LSt} {K : LSt → Prop} (h : step2 P C ops o st K) : stepL P C ops o st K := by
  unfold step2 at h
  unfold stepL
  split at h
  · rename_i hg; simp only [hg]; exact h
  · rename_i j want hg
    simp only [hg]
    split at h
    · exact h.elim
    · rename_i d hd
      simp only [hd]
      unfold gd at h
      split at h
      · rename_i b hb
        have hp : putL st.tm (some d) (.bool b) = st.tm := putL_same hb
        cases b with
        | true => cases want <;> simp_all
        | false => cases want <;> simp_all
      · rename_i hb
        simp only [hb]
        exact h
      · exact h.elim
def run2 (P : Program) (C : CallSem) (ops : Array Oper) : List Oper → LSt → (LSt → Prop) → Prop
  | [], st, K => K st
  | o :: rest, st, K => step2 P C ops o st fun st' => run2 P C ops rest st' K
theorem run2_sound {C : CallSem} (hC : Mono C) {ops : Array Oper} {K : LSt → Prop} : ∀ (l : List Oper) (st : LSt), run2 P C ops l st K → runL P C ops l st K
  | [], _, h => h
  | _ :: rest, _, h => stepL_mono hC (fun st' h' => run2_sound hC rest st' h') (step2_sound h)

/-- A guarded light operation. -/
def gdV (c : LV) (want : Bool) (x : Option LV) (K : LV → Prop) : Prop :=
  match c with
  | .bool b => if b = want then vK x K else K undefL
  | .tuple [] => K undefL
  | _ => False
@[simp] theorem gdV_true (x : Option LV) (K : LV → Prop) : gdV (.bool true) true x K = vK x K := by simp [gdV]
@[simp] theorem gdV_false (x : Option LV) (K : LV → Prop) : gdV (.bool false) true x K = K undefL := by simp [gdV]
@[simp] theorem gdV_true' (x : Option LV) (K : LV → Prop) : gdV (.bool true) false x K = K undefL := by simp [gdV]
@[simp] theorem gdV_false' (x : Option LV) (K : LV → Prop) : gdV (.bool false) false x K = vK x K := by simp [gdV]
/-- A guarded read: held where it was carried out. -/
def gdD (c : LV) (want : Bool) (x : Option LV) (K : LV → Prop) (N : Prop) : Prop :=
  match c with
  | .bool b => if b = want then vK x K else N
  | .tuple [] => N
  | _ => False
@[simp] theorem gdD_true (x : Option LV) (K : LV → Prop) (N : Prop) : gdD (.bool true) true x K N = vK x K := by simp [gdD]
@[simp] theorem gdD_false (x : Option LV) (K : LV → Prop) (N : Prop) : gdD (.bool false) true x K N = N := by simp [gdD]
@[simp] theorem gdD_true' (x : Option LV) (K : LV → Prop) (N : Prop) : gdD (.bool true) false x K N = N := by simp [gdD]
@[simp] theorem gdD_false' (x : Option LV) (K : LV → Prop) (N : Prop) : gdD (.bool false) false x K N = vK x K := by simp [gdD]
/-- Is there an operation that may come before i or behind it and that is not light? -/
def needsH (P : Program) (ops : Array Oper) (ms : List Nat) (i : Nat) : Bool := (List.range ops.size).any fun j => conc ms i j && !(lightAt P ops j)
/-- Behind operation j: the reads that are held and may still be carried out read the same. -/
def held2 (P : Program) (ms : List Nat) (j : Nat) (g : LHeap) : List Held → Prop → Prop
  | [], K => K
  | h :: hs, K =>
    match conc ms h.i j with
    | true => lightV P h.tm h.o.op g = some h.v ∧ held2 P ms j g hs K
    | false => held2 P ms j g hs K
theorem held2_spec {ms : List Nat} {j : Nat} {K : Prop} : ∀ {D : List Held}, held2 P ms j g D K → heldOK P ms j g D ∧ K
  | [], h => ⟨trivial, h⟩
  | d :: D, h => by
    unfold held2 at h
    split at h
    · obtain ⟨h1, h2⟩ := h
      have := held2_spec h2
      exact ⟨⟨fun _ => h1, this.1⟩, this.2⟩
    · rename_i hc
      have := held2_spec h
      exact ⟨⟨fun e => (by rw [hc] at e; cases e), this.1⟩, this.2⟩
/-- What is held here stands for what is held there. -/
def Cov (P : Program) (ops : Array Oper) (ms : List Nat) (D2 D : List Held) : Prop := ∀ j g, j < ops.size → lightAt P ops j = false → heldOK P ms j g D2 → heldOK P ms j g D

def light2 (P : Program) (ops : Array Oper) (ms : List Nat) (i : Nat) (o : Oper) (reads : Bool) (D : List Held) (st : LSt) (K : List Held → LSt → Prop) : Prop :=
  match o.guard with
  | none => vK (lightV P st.tm o.op st.g) fun v => K (match reads && needsH P ops ms i with | true => ⟨i, o, st.tm, v⟩ :: D | false => D) ⟨putL st.tm o.dst v, st.g⟩
  | some (j, want) =>
    match reads && needsH P ops ms i, (ops[j]?).bind (·.dst) with
    | false, some d => gdV (st.tm d) want (lightV P st.tm o.op st.g) fun v => K D ⟨putL st.tm o.dst v, st.g⟩
    | true, some d => gdD (st.tm d) want (lightV P st.tm o.op st.g) (fun v => K (⟨i, o, st.tm, v⟩ :: D) ⟨putL st.tm o.dst v, st.g⟩) (K D ⟨putL st.tm o.dst undefL, st.g⟩)
    | _, none => False
theorem cov_held {ops : Array Oper} {ms : List Nat} {D2 D : List Held} (h : Held) (hc : Cov P ops ms D2 D) (reads : Bool) : Cov P ops ms (match reads && needsH P ops ms h.i with | true => h :: D2 | false => D2) (if reads then h :: D else D) := by
  intro j g hj hl hh
  cases reads with
  | false => exact hc j g hj hl hh
  | true =>
    simp only [Bool.true_and] at hh
    simp only [if_true]
    split at hh
    · exact ⟨hh.1, hc j g hj hl hh.2⟩
    · rename_i hn
      refine ⟨fun e => ?_, hc j g hj hl hh⟩
      exfalso
      have : needsH P ops ms h.i = true := List.any_eq_true.2 ⟨j, List.mem_range.2 hj, by rw [e, hl]; rfl⟩
      rw [hn] at this
      cases this
theorem light2_sound {ops : Array Oper} {ms : List Nat} {i : Nat} {o : Oper} {reads : Bool} {D2 D : List Held} {st : LSt} {K2 K : List Held → LSt → Prop} (hcov : Cov P ops ms D2 D)
    (hK : ∀ D2 D st, Cov P ops ms D2 D → K2 D2 st → K D st) (h : light2 P ops ms i o reads D2 st K2) : lightStep P ops i o reads D st K := by
  unfold light2 at h
  unfold lightStep
  split at h
  · rename_i hg
    simp only [hg]
    exact vK_mono (fun v hv => hK _ _ _ (cov_held ⟨i, o, st.tm, v⟩ hcov reads) hv) h
  · rename_i j want hg
    simp only [hg]
    have held : ∀ (d : Nat) (b : Bool), st.tm d = .bool b → b = want → (vK (lightV P st.tm o.op st.g) fun v => K (if reads then ⟨i, o, st.tm, v⟩ :: D else D) ⟨putL st.tm o.dst v, st.g⟩) →
        (match st.tm d with
        | .bool true => if want then vK (lightV P (putL st.tm (some d) (.bool true)) o.op st.g) fun v => K (if reads then ⟨i, o, putL st.tm (some d) (.bool true), v⟩ :: D else D) ⟨putL (putL st.tm (some d) (.bool true)) o.dst v, st.g⟩
          else K D ⟨putL (putL st.tm (some d) (.bool true)) o.dst undefL, st.g⟩
        | .bool false => if want then K D ⟨putL (putL st.tm (some d) (.bool false)) o.dst undefL, st.g⟩
          else vK (lightV P (putL st.tm (some d) (.bool false)) o.op st.g) fun v => K (if reads then ⟨i, o, putL st.tm (some d) (.bool false), v⟩ :: D else D) ⟨putL (putL st.tm (some d) (.bool false)) o.dst v, st.g⟩
        | .tuple [] => K D ⟨putL st.tm o.dst undefL, st.g⟩
        | _ => False) := by
      intro d b hb hw hk
      have hp : putL st.tm (some d) (.bool b) = st.tm := putL_same hb
      subst hw
      rw [hb]
      cases b <;> simp only [hp] <;> simpa using hk
    have skip : ∀ (d : Nat) (b : Bool), st.tm d = .bool b → b ≠ want → K D ⟨putL st.tm o.dst undefL, st.g⟩ →
        (match st.tm d with
        | .bool true => if want then vK (lightV P (putL st.tm (some d) (.bool true)) o.op st.g) fun v => K (if reads then ⟨i, o, putL st.tm (some d) (.bool true), v⟩ :: D else D) ⟨putL (putL st.tm (some d) (.bool true)) o.dst v, st.g⟩
          else K D ⟨putL (putL st.tm (some d) (.bool true)) o.dst undefL, st.g⟩
        | .bool false => if want then K D ⟨putL (putL st.tm (some d) (.bool false)) o.dst undefL, st.g⟩
          else vK (lightV P (putL st.tm (some d) (.bool false)) o.op st.g) fun v => K (if reads then ⟨i, o, putL st.tm (some d) (.bool false), v⟩ :: D else D) ⟨putL (putL st.tm (some d) (.bool false)) o.dst v, st.g⟩
        | .tuple [] => K D ⟨putL st.tm o.dst undefL, st.g⟩
        | _ => False) := by
      intro d b hb hw hk
      have hp : putL st.tm (some d) (.bool b) = st.tm := putL_same hb
      rw [hb]
      cases b <;> cases want <;> simp only [hp] <;> first | exact (hw rfl).elim | simpa using hk
    split at h
    · rename_i d hr hd
      simp only [hd]
      unfold gdV at h
      split at h
      · rename_i b hb
        split at h
        · rename_i hw
          refine held d b hb hw (vK_mono (fun v hv => hK _ _ _ ?_ hv) h)
          have := cov_held ⟨i, o, st.tm, v⟩ hcov reads
          rw [hr] at this
          exact this
        · rename_i hw
          exact skip d b hb hw (hK _ _ _ hcov h)
      · rename_i hb
        simp only [hb]
        exact hK _ _ _ hcov h
      · exact h.elim
    · rename_i d hr hd
      simp only [hd]
      unfold gdD at h
      split at h
      · rename_i b hb
        split at h
        · rename_i hw
          refine held d b hb hw (vK_mono (fun v hv => hK _ _ _ ?_ hv) h)
          have := cov_held ⟨i, o, st.tm, v⟩ hcov reads
          rw [hr] at this
          exact this
        · rename_i hw
          exact skip d b hb hw (hK _ _ _ hcov h)
      · rename_i hb
        simp only [hb]
        exact hK _ _ _ hcov h
      · exact h.elim
    · exact h.elim

def draw2 (P : Program) (C : CallSem) (ops : Array Oper) (ms : List Nat) : Nat → Array Bool → List Held → LSt → (LSt → Prop) → Prop
  | 0, listed, _, st, K => match Region.ready .any ops listed with
    | [] => K st
    | _ => False
  | n + 1, listed, D, st, K =>
    match Region.ready .any ops listed with
    | [] => K st
    | r :: rs =>
      match pickL1 P ops ms listed (r :: rs) with
      | some (i, o, reads) => light2 P ops ms i o reads D st fun D' st' => draw2 P C ops ms n (listed.setIfInBounds i true) D' st' K
      | none => allL (r :: rs) fun i =>
        match ops[i]? with
        | some o => match kindO P o.op with
          | some _ => False
          | none => step2 P C ops o st fun st' => held2 P ms i st'.g D (draw2 P C ops ms n (listed.setIfInBounds i true) D st' K)
        | none => False
theorem draw2_sound {C : CallSem} (hC : Mono C) {ops : Array Oper} {ms : List Nat} {K : LSt → Prop} : ∀ (n : Nat) (listed : Array Bool) (D2 D : List Held) (st : LSt), Cov P ops ms D2 D → draw2 P C ops ms n listed D2 st K → drawL P C ops ms n listed D st K := by
  intro n
  induction n with
  | zero =>
    intro listed D2 D st _ h
    unfold draw2 at h
    unfold drawL
    split at h
    · rename_i hr; rw [hr]; exact h
    · exact h.elim
  | succ n ih =>
    intro listed D2 D st hcov h
    unfold draw2 at h
    unfold drawL
    split at h
    · rename_i hr; rw [hr]; exact h
    · rename_i r rs hr
      rw [hr]
      simp only []
      split at h
      · rename_i i o reads hp
        rw [hp]
        exact light2_sound hcov (fun D2' D' st' hc h' => ih _ _ _ _ hc h') h
      · rename_i hp
        rw [hp]
        refine allL_mono (fun i hi => ?_) _ h
        split at hi
        · rename_i o ho
          simp only [ho]
          split at hi
          · exact hi.elim
          · rename_i hk
            simp only [hk]
            refine stepL_mono hC (fun st' h' => ?_) (step2_sound hi)
            have h2 := held2_spec h'
            exact ⟨hcov i st'.g (Array.getElem?_eq_some_iff.1 ho).1 (by simp [lightAt, ho, hk]) h2.1, ih _ _ _ _ hcov h2.2⟩
        · exact hi.elim

/-- A value over a heap, named. -/
def mkK (v : LV) (h : LHeap) (K : LV → LHeap → Prop) : Prop := K v h
@[simp] theorem mkK_eq (v : LV) (h : LHeap) (K : LV → LHeap → Prop) : mkK v h K = K v h := rfl
/-- Two ways on. -/
def ifB (c : LV) (A B : Prop) : Prop :=
  match c with
  | .bool true => A
  | .bool false => B
  | _ => False
@[simp] theorem ifB_true (A B : Prop) : ifB (.bool true) A B = A := rfl
@[simp] theorem ifB_false (A B : Prop) : ifB (.bool false) A B = B := rfl
def code2 (P : Program) (C : CallSem) : Code → LSt → (LEx → LSt → Prop) → Prop
  | .skip, st, K => K .normal st
  | .region _ ops true, st, K => draw2 P C ops (masks ops.toList []) ops.size (Array.replicate ops.size false) [] st (K .normal)
  | .region _ ops false, st, K => run2 P C ops ops.toList st (K .normal)
  | .seq a b, st, K => code2 P C a st (thenL (fun st' => code2 P C b st' K) K)
  | .cond c a b, st, K => ifB (evL st.tm c) (code2 P C a st K) (code2 P C b st K)
  | .block id b, st, K => code2 P C b st (exitL id K)
  | .loop b, st, K => loopL (code2 P C b) st K
  | .exit id, st, K => K (.exit id) st
  | .ret, st, K => K .ret st
  | .scope b, st, K => code2 P C b st K
  | .label _, st, K => K .normal st
  | _, _, _ => False
theorem code2_sound {C : CallSem} (hC : Mono C) : ∀ (c : Code) (st : LSt) (K : LEx → LSt → Prop), code2 P C c st K → codeL P C c st K := by
  intro c
  induction c with
  | region id ops d =>
    intro st K h
    cases d with
    | true => exact draw2_sound hC _ _ [] [] _ (fun _ _ _ _ h => h) h
    | false => exact run2_sound hC _ _ h
  | seq a b iha ihb =>
    intro st K h
    refine codeL_mono hC a st _ _ (fun e st' h' => ?_) (iha st _ h)
    cases e with
    | normal => exact ihb st' K h'
    | _ => exact h'
  | cond c a b iha ihb =>
    intro st K h
    simp only [code2] at h
    simp only [codeL]
    unfold ifB at h
    split at h
    · rename_i hc; simp only [hc]; exact iha st K h
    · rename_i hc; simp only [hc]; exact ihb st K h
    · exact h.elim
  | block id b ih => intro st K h; exact ih st _ h
  | loop b ih =>
    intro st K h
    obtain ⟨I, μ, h1, h2⟩ := h
    exact ⟨I, μ, h1, fun s hs => ih s _ (h2 s hs)⟩
  | skip => intro st K h; exact h
  | exit id => intro st K h; exact h
  | ret => intro st K h; exact h
  | scope b ih => intro st K h; exact ih st _ h
  | label l => intro st K h; exact h
  | _ => intro st K h; exact h.elim

/-- A function's contract, out of what its body does. -/
theorem ok_of_code2 {f : FuncId} {fn : Func} {c : Code} {args : List LV} {K : LV → LHeap → Prop} (hm : P.follows .mixedOrders = true) (hf : P.funcs[f]? = some fn) (hb : fn.body = some c) (hfine : fineF P f = true) (hlen : args.length ≤ fn.ntmps)
    (hK : code2 P (Ok P) c ⟨startL args, g⟩ (endL P fn K)) : Ok P f args g K := by
  unfold fineF at hfine
  simp only [hf, hb, Bool.and_eq_true, Bool.not_eq_true'] at hfine
  exact ok_of_code hm hf hb hfine.2 hfine.1 hlen (code2_sound ok_mono c _ _ hK)

/-! ### A body's nodes, by number of function and path -/
def bodyC (P : Program) (f : FuncId) : Code :=
  match P.funcs[f]? with
  | some fn => match fn.body with
    | some c => c
    | none => .skip
  | none => .skip
def subC : List Nat → Code → Code
  | [], c => c
  | i :: is, c =>
    match c with
    | .seq a b => subC is (match i with | 0 => a | _ => b)
    | .cond _ a b => subC is (match i with | 0 => a | _ => b)
    | .block _ b => subC is b
    | .loop b => subC is b
    | .rangeFunc _ _ a b => subC is (match i with | 0 => a | _ => b)
    | c => c
theorem body_of {f : FuncId} {fn : Func} (hf : P.funcs[f]? = some fn) (hb : fn.body.isSome = true) : fn.body = some (bodyC P f) := by
  unfold bodyC
  simp only [hf]
  cases h : fn.body with
  | none => rw [h] at hb; cases hb
  | some c => rfl
/-- A function's contract, out of what its body does. -/
theorem ok_fn {f : FuncId} {fn : Func} {args : List LV} {K : LV → LHeap → Prop} (hm : P.follows .mixedOrders = true) (hf : P.funcs[f]? = some fn) (hfine : fineF P f = true) (hlen : args.length ≤ fn.ntmps)
    (hK : code2 P (Ok P) (bodyC P f) ⟨startL args, g⟩ (endL P fn K)) : Ok P f args g K := by
  refine ok_of_code2 hm hf (body_of hf ?_) hfine hlen hK
  unfold fineF at hfine
  simp only [hf] at hfine
  cases h : fn.body with
  | none => rw [h] at hfine; cases hfine
  | some c => rfl

end Go.Lm
