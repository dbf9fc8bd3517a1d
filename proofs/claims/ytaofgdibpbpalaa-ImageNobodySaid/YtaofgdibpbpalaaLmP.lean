/-
  The logical machine, part P: a region that draws its order: one walk serves every order.
-/
import Derived.Test.YtaofgdibpbpalaaLmO
namespace Go.Lm

variable {P : Program} {W : World} {keep : Nat → Prop} {ρ : Ren} {g : LHeap} {w : World}

/-! ### Who waits for whom -/
def maskOf (acc : List Nat) (es : List Edge) : Nat := es.foldl (fun s e => if Region.binds .any e then s ||| 2 ^ e.on ||| acc.getD e.on 0 else s) 0
def masks : List Oper → List Nat → List Nat
  | [], acc => acc
  | o :: os, acc => masks os (acc ++ [maskOf acc o.after.toList])

theorem maskOf_bit {acc : List Nat} {i : Nat} : ∀ (es : List Edge) (s : Nat), (es.foldl (fun s e => if Region.binds .any e then s ||| 2 ^ e.on ||| acc.getD e.on 0 else s) s).testBit i = true →
    s.testBit i = true ∨ ∃ e ∈ es, Region.binds .any e = true ∧ (e.on = i ∨ (acc.getD e.on 0).testBit i = true) := by
  intro es
  induction es with
  | nil => intro s h; exact .inl h
  | cons e es ih =>
    intro s h
    simp only [List.foldl_cons] at h
    rcases ih _ h with h1 | ⟨e', he', h2⟩
    · by_cases hb : Region.binds .any e = true
      · rw [if_pos hb, Nat.testBit_or, Nat.testBit_or] at h1
        simp only [Bool.or_eq_true] at h1
        rcases h1 with (h1 | h1) | h1
        · exact .inl h1
        · refine .inr ⟨e, by simp, hb, .inl ?_⟩
          rw [Nat.testBit_two_pow] at h1
          simpa using h1
        · exact .inr ⟨e, by simp, hb, .inr h1⟩
      · rw [if_neg hb] at h1
        exact .inl h1
    · exact .inr ⟨e', by simp [he'], h2⟩

/-- the masks of the first k operations are those that were laid first -/
theorem masks_get : ∀ (os : List Oper) (acc : List Nat) (j : Nat), j < acc.length → (masks os acc).getD j 0 = acc.getD j 0 := by
  intro os
  induction os with
  | nil => intro acc j _; rfl
  | cons o os ih =>
    intro acc j hj
    simp only [masks]
    rw [ih _ j (by simp; omega)]
    simp [List.getElem?_append, hj]
theorem masks_spec : ∀ (os : List Oper) (acc : List Nat) (j : Nat) (o : Oper), acc.length ≤ j → os[j - acc.length]? = some o → ∀ i, ((masks os acc).getD j 0).testBit i = true →
    ∃ e ∈ o.after.toList, Region.binds .any e = true ∧ (e.on = i ∨ (e.on < j ∧ ((masks os acc).getD e.on 0).testBit i = true)) := by
  intro os
  induction os with
  | nil => intro acc j o _ h; simp at h
  | cons x os ih =>
    intro acc j o hle ho i hb
    by_cases hj : j = acc.length
    · subst hj
      simp at ho
      subst ho
      simp only [masks] at hb ⊢
      rw [masks_get os _ acc.length (by simp)] at hb
      have hm : (acc ++ [maskOf acc x.after.toList]).getD acc.length 0 = maskOf acc x.after.toList := by simp
      rw [hm] at hb
      unfold maskOf at hb
      rcases maskOf_bit _ _ hb with h0 | ⟨e, he, h1, h2⟩
      · simp at h0
      · refine ⟨e, he, h1, ?_⟩
        rcases h2 with h2 | h2
        · exact .inl h2
        · by_cases hlt : e.on < acc.length
          · refine .inr ⟨hlt, ?_⟩
            rw [masks_get os _ e.on (by simp; omega)]
            simpa [List.getElem?_append, hlt] using h2
          · simp [List.getElem?_eq_none (by omega : acc.length ≤ e.on)] at h2
    · simp only [masks] at hb ⊢
      refine ih _ j o (by simp; omega) ?_ i hb
      rw [show j - acc.length = (j - (acc.length + 1)) + 1 by omega] at ho
      simpa using ho

def Down (ops : Array Oper) (listed : Array Bool) : Prop := ∀ j o, ops[j]? = some o → listed.getD j false = true → ∀ e ∈ o.after, Region.binds .any e = true → listed.getD e.on false = true
theorem down_listed {ops : Array Oper} {listed : Array Bool} (hd : Down ops listed) : ∀ (n j : Nat) (o : Oper), j < n → ops[j]? = some o → (∀ e ∈ o.after, Region.binds .any e = true → listed.getD e.on false = true) →
    ∀ i, ((masks ops.toList []).getD j 0).testBit i = true → listed.getD i false = true := by
  intro n
  induction n with
  | zero => intro j o h; omega
  | succ n ih =>
    intro j o hj ho hall i hb
    obtain ⟨e, he, h1, h2⟩ := masks_spec ops.toList [] j o (Nat.zero_le _) (by simpa using ho) i hb
    have hl := hall e (by simpa using he) h1
    rcases h2 with h2 | ⟨hlt, h2⟩
    · rw [← h2]; exact hl
    · cases hoe : ops[e.on]? with
      | none =>
        exfalso
        have hz : (masks ops.toList []).getD e.on 0 = 0 := by
          have hlen : ∀ (os : List Oper) (acc : List Nat), (masks os acc).length = acc.length + os.length := by
            intro os
            induction os with
            | nil => intro acc; rfl
            | cons x os ih => intro acc; simp only [masks, ih]; simp; omega
          have : (masks ops.toList []).length ≤ e.on := by
            rw [hlen]
            have := Array.getElem?_eq_none_iff.1 hoe
            simpa using this
          simp [List.getElem?_eq_none this]
        rw [hz] at h2
        simp at h2
      | some o' => exact ih e.on o' (by omega) hoe (fun e' he' hb' => hd e.on o' hoe hl e' he' hb') i h2

/-! ### Conditions that a later operation must keep -/
/-- Whatever order is picked; a light operation leaves the world; each condition holds behind each operation that it looks at. -/
def wpAnyD (P : Program) (ops : Array Oper) (L : Nat → Bool) (Q : Exit → Act → World → Prop) (D : List ((Nat → Bool) × (World → Prop))) : Nat → Array Bool → Act → World → Prop
  | 0, listed, a, w => Region.ready .any ops listed = [] ∧ Q .normal a w
  | fuel + 1, listed, a, w =>
    (Region.ready .any ops listed = [] → Q .normal a w) ∧
    ∀ i ∈ Region.ready .any ops listed, wpOp P ops Q i (fun a' w' => (L i = true → w' = w) ∧ (∀ d ∈ D, d.1 i = true → d.2 w') ∧ wpAnyD P ops L Q D fuel (listed.setIfInBounds i true) a' w') a w
section
variable {ops : Array Oper} {L : Nat → Bool} {Q : Exit → Act → World → Prop}
theorem wpAny_of_D {D : List ((Nat → Bool) × (World → Prop))} : ∀ (fuel : Nat) (listed : Array Bool) (a : Act) (w : World), wpAnyD P ops L Q D fuel listed a w → wpAny P .any ops Q fuel listed a w
  | 0, _, _, _, h => h
  | fuel + 1, _, _, _, h => ⟨h.1, fun i hi => wpOp_mono (fun a' w' h' => wpAny_of_D fuel _ a' w' h'.2.2) (h.2 i hi)⟩
theorem wpAnyD_tail {d : (Nat → Bool) × (World → Prop)} {D : List ((Nat → Bool) × (World → Prop))} : ∀ (fuel : Nat) (listed : Array Bool) (a : Act) (w : World), wpAnyD P ops L Q (d :: D) fuel listed a w → wpAnyD P ops L Q D fuel listed a w
  | 0, _, _, _, h => h
  | fuel + 1, _, _, _, h => ⟨h.1, fun i hi => wpOp_mono (fun a' w' h' => ⟨h'.1, fun e he => h'.2.1 e (by simp [he]), wpAnyD_tail fuel _ a' w' h'.2.2⟩) (h.2 i hi)⟩
theorem wpAnyD_more {d : (Nat → Bool) × (World → Prop)} {D : List ((Nat → Bool) × (World → Prop))} (hd : ∀ (_ : Nat) (w : World), d.2 w) : ∀ (fuel : Nat) (listed : Array Bool) (a : Act) (w : World), wpAnyD P ops L Q D fuel listed a w → wpAnyD P ops L Q (d :: D) fuel listed a w
  | 0, _, _, _, h => h
  | fuel + 1, _, _, _, h => ⟨h.1, fun i hi => wpOp_mono (fun a' w' h' => ⟨h'.1, fun e he hei => by
      rcases List.mem_cons.1 he with rfl | he
      · exact hd i w'
      · exact h'.2.1 e he hei, wpAnyD_more hd fuel _ a' w' h'.2.2⟩) (h.2 i hi)⟩
theorem down_set {listed : Array Bool} {j : Nat} (hd : Down ops listed) (hj : j ∈ Region.ready .any ops listed) : Down ops (listed.setIfInBounds j true) := by
  intro k o ho hk e he hb
  by_cases hkj : j = k
  · subst hkj
    obtain ⟨_, o', ho', hall⟩ := mem_ready.1 hj
    rw [ho] at ho'
    cases ho'
    exact getD_set_true (hall e he hb)
  · rw [getD_set_ne false hkj] at hk
    exact getD_set_true (hd k o ho hk e he hb)

/-- An operation that only yields a value may be carried out first. -/
theorem takeFirst {i : Nat} {oi : Oper} {v : Value} {S : World → Prop} {c : Nat → Bool} (hi : ops[i]? = some oi) (hsel : ∀ (j : Nat) (o : Oper) cs b, ops[j]? = some o → o.op ≠ .select cs b)
    (hQ : ∀ c a w, Q (.panic c) (a.put oi.dst v) w → Q (.panic c) a w) (hc : ∀ j o, ops[j]? = some o → L j = false → ((masks ops.toList []).getD j 0).testBit i = false → c j = true) :
    ∀ (fuel : Nat) (listed : Array Bool) (D : List ((Nat → Bool) × (World → Prop))) (a : Act) (w : World), (∀ d ∈ D, d.1 i = false) → Down ops listed →
      (∀ j oj, ops[j]? = some oj → j ≠ i → listed.getD j true = false → ((masks ops.toList []).getD j 0).testBit i = false → oi.apart ops oj = true) →
      i ∈ Region.ready .any ops listed → YieldsIf P ops S oi v a → S w →
      wpAnyD P ops L Q ((c, S) :: D) fuel (listed.setIfInBounds i true) (a.put oi.dst v) w → wpAnyD P ops L Q D (fuel + 1) listed a w := by
  intro fuel
  induction fuel with
  | zero =>
    intro listed D a w hD hdown hfree hr hy hS H
    refine ⟨fun h => (by rw [h] at hr; cases hr), fun j hj => ?_⟩
    by_cases hji : j = i
    · subst hji; exact hy.wpOp hi hS ⟨fun _ => rfl, fun d hd e => (by rw [hD d hd] at e; cases e), wpAnyD_tail _ _ _ _ H⟩
    · have := ready_mono hj hji
      rw [H.1] at this
      cases this
  | succ fuel ih =>
    intro listed D a w hD hdown hfree hr hy hS H
    refine ⟨fun h => (by rw [h] at hr; cases hr), fun j hj => ?_⟩
    by_cases hji : j = i
    · subst hji; exact hy.wpOp hi hS ⟨fun _ => rfl, fun d hd e => (by rw [hD d hd] at e; cases e), wpAnyD_tail _ _ _ _ H⟩
    · have h1 := H.2 j (ready_mono hj hji)
      obtain ⟨hjun, oj, hoj, hall⟩ := mem_ready.1 hj
      have hnot : ((masks ops.toList []).getD j 0).testBit i = false := by
        cases hb : ((masks ops.toList []).getD j 0).testBit i with
        | false => rfl
        | true =>
          have h1 := down_listed hdown (j + 1) j oj (by omega) hoj hall i hb
          have h0 := (mem_ready.1 hr).1
          rcases Nat.lt_or_ge i listed.size with h' | h'
          · simp [h'] at h0 h1; rw [h0] at h1; cases h1
          · simp [Array.getElem?_eq_none h'] at h1
      have h2 := wpOp_putIf hoj (hfree j oj hoj hji hjun hnot) (fun cs b => hsel i oi cs b hi) (fun cs b => hsel j oj cs b hoj) hQ hy h1
      have hfree' : ∀ k ok, ops[k]? = some ok → k ≠ i → (listed.setIfInBounds j true).getD k true = false → ((masks ops.toList []).getD k 0).testBit i = false → oi.apart ops ok = true := fun k ok hk hki hun hno => by
        refine hfree k ok hk hki ?_ hno
        by_cases hjk : j = k
        · subst hjk; exact hjun
        · rw [getD_set_ne true hjk] at hun; exact hun
      refine wpOp_mono (fun a' w' h3 => ⟨h3.2.1, fun d hd e => h3.2.2.1 d (by simp [hd]) e, ih (listed.setIfInBounds j true) D a' w' hD (down_set hdown hj) hfree' (ready_mono hr (Ne.symm hji)) h3.1 ?_ ?_⟩) h2
      · cases hl : L j with
        | true => rw [h3.2.1 hl]; exact hS
        | false => exact h3.2.2.1 (c, S) (by simp) (hc j oj hoj hl hnot)
      · rw [Array.setIfInBounds_comm _ _ hji]
        exact h3.2.2.2
end

/-! ### The walk -/
/-- A read that may still be carried out later: its number, itself, the frame in which it read, what it read. -/
structure Held where
  i : Nat
  o : Oper
  tm : Nat → LV
  v : LV

def conc (ms : List Nat) (i j : Nat) : Bool := !((ms.getD j 0).testBit i)
/-- Behind operation j: each read that is held and does not come before j in any case reads the same. -/
def heldOK (P : Program) (ms : List Nat) (j : Nat) (g : LHeap) : List Held → Prop
  | [] => True
  | h :: hs => (conc ms h.i j = true → lightV P h.tm h.o.op g = some h.v) ∧ heldOK P ms j g hs
def freeL (ops : Array Oper) (ms : List Nat) (listed : Array Bool) (i : Nat) (o : Oper) : Bool :=
  (List.range ops.size).all fun j => match ops[j]? with
    | some oj => j == i || listed.getD j true || !(conc ms i j) || o.apart ops oj
    | none => true
def pickL1 (P : Program) (ops : Array Oper) (ms : List Nat) (listed : Array Bool) (rs : List Nat) : Option (Nat × Oper × Bool) :=
  rs.findSome? fun i => match ops[i]? with
    | some o => match kindO P o.op with
      | some r => if freeL ops ms listed i o then some (i, o, r) else none
      | none => none
    | none => none
def allL : List Nat → (Nat → Prop) → Prop
  | [], _ => True
  | i :: is, f => f i ∧ allL is f
def lightStep (P : Program) (ops : Array Oper) (i : Nat) (o : Oper) (reads : Bool) (D : List Held) (st : LSt) (K : List Held → LSt → Prop) : Prop :=
  match o.guard with
  | none => vK (lightV P st.tm o.op st.g) fun v => K (if reads then ⟨i, o, st.tm, v⟩ :: D else D) ⟨putL st.tm o.dst v, st.g⟩
  | some (j, want) =>
    match (ops[j]?).bind (·.dst) with
    | none => False
    | some d =>
      match st.tm d with
      | .bool true => if want then vK (lightV P (putL st.tm (some d) (.bool true)) o.op st.g) fun v => K (if reads then ⟨i, o, putL st.tm (some d) (.bool true), v⟩ :: D else D) ⟨putL (putL st.tm (some d) (.bool true)) o.dst v, st.g⟩
        else K D ⟨putL (putL st.tm (some d) (.bool true)) o.dst undefL, st.g⟩
      | .bool false => if want then K D ⟨putL (putL st.tm (some d) (.bool false)) o.dst undefL, st.g⟩
        else vK (lightV P (putL st.tm (some d) (.bool false)) o.op st.g) fun v => K (if reads then ⟨i, o, putL st.tm (some d) (.bool false), v⟩ :: D else D) ⟨putL (putL st.tm (some d) (.bool false)) o.dst v, st.g⟩
      | .tuple [] => K D ⟨putL st.tm o.dst undefL, st.g⟩
      | _ => False
def drawL (P : Program) (C : CallSem) (ops : Array Oper) (ms : List Nat) : Nat → Array Bool → List Held → LSt → (LSt → Prop) → Prop
  | 0, listed, _, st, K => match Region.ready .any ops listed with
    | [] => K st
    | _ => False
  | n + 1, listed, D, st, K =>
    match Region.ready .any ops listed with
    | [] => K st
    | r :: rs =>
      match pickL1 P ops ms listed (r :: rs) with
      | some (i, o, reads) => lightStep P ops i o reads D st fun D' st' => drawL P C ops ms n (listed.setIfInBounds i true) D' st' K
      | none => allL (r :: rs) fun i =>
        match ops[i]? with
        | some o => match kindO P o.op with
          | some _ => False
          | none => stepL P C ops o st fun st' => heldOK P ms i st'.g D ∧ drawL P C ops ms n (listed.setIfInBounds i true) D st' K
        | none => False

/-- Is operation i light? -/
def lightAt (P : Program) (ops : Array Oper) (i : Nat) : Bool := (ops[i]?).any fun o => (kindO P o.op).isSome
/-- A held read, as a condition on the world. -/
def HeldR (P : Program) (ops : Array Oper) (ms : List Nat) (ρ : Ren) (n : Nat) (h : Held) (d : (Nat → Bool) × (World → Prop)) : Prop :=
  d.1 = (fun j => conc ms h.i j && !(lightAt P ops j)) ∧ fineOp h.o = true ∧ ∃ a : Act, TRel ρ n h.tm a.tmps ∧ h.v.ok ρ n ∧ d.2 = fun w => (execOp a.eval h.o).run P w = .ok (.value (h.v.toV ρ)) w
theorem HeldR.ext {ops : Array Oper} {ms : List Nat} {n m : Nat} {ρ' : Ren} {h : Held} {d : (Nat → Bool) × (World → Prop)} (hr : HeldR P ops ms ρ n h d) (hx : Ren.Ext n ρ ρ') (hnm : n ≤ m) : HeldR P ops ms ρ' m h d := by
  obtain ⟨h1, h2, a, h3, h4, h5⟩ := hr
  exact ⟨h1, h2, a, h3.ext hx hnm, LV.ok_ext hx hnm _ h4, by rw [h5, LV.toV_ext hx _ h4]⟩
def HeldsR (P : Program) (ops : Array Oper) (ms : List Nat) (ρ : Ren) (n : Nat) : List Held → List ((Nat → Bool) × (World → Prop)) → Prop
  | [], [] => True
  | h :: hs, d :: ds => HeldR P ops ms ρ n h d ∧ HeldsR P ops ms ρ n hs ds
  | _, _ => False
theorem HeldsR.ext {ops : Array Oper} {ms : List Nat} {n m : Nat} {ρ' : Ren} (hx : Ren.Ext n ρ ρ') (hnm : n ≤ m) : ∀ {hs : List Held} {ds : List ((Nat → Bool) × (World → Prop))}, HeldsR P ops ms ρ n hs ds → HeldsR P ops ms ρ' m hs ds
  | [], [], _ => trivial
  | _ :: _, _ :: _, h => ⟨h.1.ext hx hnm, HeldsR.ext hx hnm h.2⟩
  | [], _ :: _, h => h.elim
  | _ :: _, [], h => h.elim
theorem HeldsR.fst {ops : Array Oper} {ms : List Nat} {n i : Nat} (hl : lightAt P ops i = true) : ∀ {hs : List Held} {ds : List ((Nat → Bool) × (World → Prop))}, HeldsR P ops ms ρ n hs ds → ∀ d ∈ ds, d.1 i = false
  | [], [], _, d, hd => by cases hd
  | _ :: _, _ :: _, h, d, hd => by
    rcases List.mem_cons.1 hd with rfl | hd
    · rw [h.1.1]; simp [hl]
    · exact HeldsR.fst hl h.2 d hd
  | [], _ :: _, h, _, _ => h.elim
  | _ :: _, [], h, _, _ => h.elim
theorem HeldsR.met {ops : Array Oper} {ms : List Nat} {j : Nat} (hrel : Rel W keep ρ g w) : ∀ {hs : List Held} {ds : List ((Nat → Bool) × (World → Prop))}, HeldsR P ops ms ρ g.next hs ds → heldOK P ms j g hs → ∀ d ∈ ds, d.1 j = true → d.2 w
  | [], [], _, _, d, hd, _ => by cases hd
  | h :: _, _ :: _, hr, hk, d, hd, hj => by
    rcases List.mem_cons.1 hd with rfl | hd
    · obtain ⟨h1, h2, a, h3, h4, h5⟩ := hr.1
      rw [h1] at hj
      simp only [Bool.and_eq_true] at hj
      rw [h5]
      exact (light_sound h2 hrel h3 (hk.1 hj.1)).1
    · exact HeldsR.met hrel hr.2 hk.2 d hd hj
  | [], _ :: _, h, _, _, _, _ => h.elim
  | _ :: _, [], h, _, _, _, _ => h.elim

theorem pickL1_spec {ops : Array Oper} {ms : List Nat} {listed : Array Bool} {rs : List Nat} {i : Nat} {o : Oper} {r : Bool} (h : pickL1 P ops ms listed rs = some (i, o, r)) :
    i ∈ rs ∧ ops[i]? = some o ∧ kindO P o.op = some r ∧ freeL ops ms listed i o = true := by
  unfold pickL1 at h
  obtain ⟨k, hk, h⟩ := List.exists_of_findSome?_eq_some h
  split at h
  · rename_i o' ho
    split at h
    · rename_i r' hr
      split at h
      · rename_i hf
        cases h
        exact ⟨hk, ho, hr, hf⟩
      · cases h
    · cases h
  · cases h
theorem freeL_spec {ops : Array Oper} {listed : Array Bool} {i : Nat} {o : Oper} (h : freeL ops (masks ops.toList []) listed i o = true) :
    ∀ j oj, ops[j]? = some oj → j ≠ i → listed.getD j true = false → ((masks ops.toList []).getD j 0).testBit i = false → o.apart ops oj = true := by
  intro j oj hoj hne hun hno
  have hj : j < ops.size := (Array.getElem?_eq_some_iff.1 hoj).1
  have := List.all_eq_true.1 h j (List.mem_range.2 hj)
  rw [hoj] at this
  simp only [Bool.or_eq_true, beq_iff_eq, hun, conc, hno] at this
  simpa [hne] using this
theorem allL_spec : ∀ {l : List Nat} {f : Nat → Prop}, allL l f → ∀ i ∈ l, f i
  | _ :: _, _, h, i, hi => by
    rcases List.mem_cons.1 hi with rfl | hi
    · exact h.1
    · exact allL_spec h.2 i hi
  | [], _, _, _, hi => by cases hi

theorem light_put {N : Nat} {o : Oper} {v : LV} {st : LSt} {a : Act} (hd : dstOK N o = true) (h : SRel W keep ρ N st a w) (hv : v.ok ρ st.g.next) : SRel W keep ρ N ⟨putL st.tm o.dst v, st.g⟩ (a.put o.dst (v.toV ρ)) w :=
  h.put hd (Post.same h.rel hv)

theorem draw_sound {N : Nat} {ops : Array Oper} {Q : Exit → Act → World → Prop} (hfine : ∀ o ∈ ops.toList, fineOp o = true ∧ dstOK N o = true) (hsel : ∀ (j : Nat) (o : Oper) cs b, ops[j]? = some o → o.op ≠ .select cs b) (hQ : ∀ c a w, ¬ Q (.panic c) a w) :
    ∀ (fuel : Nat) (listed : Array Bool) (D : List Held) (ds : List ((Nat → Bool) × (World → Prop))) (st : LSt) (a : Act) (w : World) (ρ : Ren) (K : LSt → Prop),
      SRel W keep ρ N st a w → Down ops listed → HeldsR P ops (masks ops.toList []) ρ st.g.next D ds → drawL P (Ok P) ops (masks ops.toList []) fuel listed D st K →
      (∀ a w, Later W keep ρ N st.g.next K a w → Q .normal a w) → wpAnyD P ops (lightAt P ops) Q ds fuel listed a w := by
  intro fuel
  induction fuel with
  | zero =>
    intro listed D ds st a w ρ K h hdown hD hK hQ'
    unfold drawL at hK
    split at hK
    · rename_i hr
      exact ⟨hr, hQ' _ _ ⟨st, ρ, Ren.Ext.refl _ _, Nat.le_refl _, h, hK⟩⟩
    · exact hK.elim
  | succ fuel ih =>
    intro listed D ds st a w ρ K h hdown hD hK hQ'
    unfold drawL at hK
    split at hK
    · rename_i hr
      refine ⟨fun _ => hQ' _ _ ⟨st, ρ, Ren.Ext.refl _ _, Nat.le_refl _, h, hK⟩, fun i hi => ?_⟩
      rw [hr] at hi
      cases hi
    · rename_i r rs hr
      split at hK
      · -- a light operation
        rename_i i o reads hp
        obtain ⟨hmem, hoi, hkind, hfree⟩ := pickL1_spec hp
        have hmo : o ∈ ops.toList := by
          have := Array.mem_of_getElem? hoi
          simpa using this
        obtain ⟨hf, hdst⟩ := hfine o hmo
        have hready : i ∈ Region.ready .any ops listed := by rw [hr]; exact hmem
        have hli : lightAt P ops i = true := by simp [lightAt, hoi, hkind]
        have hfr := freeL_spec hfree
        have hdown' := down_set hdown hready
        -- it yields v whatever world keeps S; then on
        have go : ∀ (v : LV) (D' : List Held) (d : (Nat → Bool) × (World → Prop)), v.ok ρ st.g.next → YieldsIf P ops d.2 o (v.toV ρ) a → d.2 w →
            (∀ j o', ops[j]? = some o' → lightAt P ops j = false → ((masks ops.toList []).getD j 0).testBit i = false → d.1 j = true) →
            (wpAnyD P ops (lightAt P ops) Q (d :: ds) fuel (listed.setIfInBounds i true) (a.put o.dst (v.toV ρ)) w) → wpAnyD P ops (lightAt P ops) Q ds (fuel + 1) listed a w := by
          intro v D' d hv hy hS hc H
          exact takeFirst (c := d.1) (S := d.2) hoi hsel (fun c a' w' hq => (hQ _ _ _ hq).elim) hc fuel listed ds a w (HeldsR.fst hli hD) hdown hfr hready hy hS H
        have plain : ∀ (v : LV), v.ok ρ st.g.next → (∀ w', YieldsIf P ops (fun u => u = w') o (v.toV ρ) a) → drawL P (Ok P) ops (masks ops.toList []) fuel (listed.setIfInBounds i true) D ⟨putL st.tm o.dst v, st.g⟩ K →
            wpAnyD P ops (lightAt P ops) Q ds (fuel + 1) listed a w := by
          intro v hv hy hk
          have hy' : YieldsIf P ops (fun _ => True) o (v.toV ρ) a := by
            rcases hy w with ⟨h1, h2⟩ | ⟨h1, h2⟩
            · refine .inl ⟨h1, fun w' _ => ?_⟩
              rcases hy w' with ⟨_, h3⟩ | ⟨h3, _⟩
              · exact h3 w' rfl
              · rw [h1] at h3; cases h3
            · exact .inr ⟨h1, h2⟩
          refine go v D (fun _ => true, fun _ => True) hv hy' trivial (fun _ _ _ _ _ => rfl) ?_
          have H := ih (listed.setIfInBounds i true) D ds ⟨putL st.tm o.dst v, st.g⟩ (a.put o.dst (v.toV ρ)) w ρ K (light_put hdst h hv) hdown' hD hk hQ'
          exact wpAnyD_more (fun _ _ => trivial) _ _ _ _ H
        have held : ∀ (v : LV) (tm : Nat → LV), tm = st.tm → lightV P tm o.op st.g = some v → Region.wanted o (yielded ops a.tmps) = true →
            drawL P (Ok P) ops (masks ops.toList []) fuel (listed.setIfInBounds i true) (if reads then ⟨i, o, tm, v⟩ :: D else D) ⟨putL tm o.dst v, st.g⟩ K →
            wpAnyD P ops (lightAt P ops) Q ds (fuel + 1) listed a w := by
          intro v tm htm hv hw hk
          subst htm
          have hl := light_sound hf h.rel h.tm hv
          cases reads with
          | false =>
            refine plain v hl.2 (fun w' => .inl ⟨hw, fun u hu => ?_⟩) (by simpa using hk)
            subst hu
            exact (pure_sound hf h.rel hkind h.tm hv u).1
          | true =>
            simp only [if_true] at hk
            refine go v D ((fun j => conc (masks ops.toList []) i j && !(lightAt P ops j)), fun w => (execOp a.eval o).run P w = .ok (.value (v.toV ρ)) w) hl.2 (.inl ⟨hw, fun u hu => hu⟩) hl.1 (fun j o' _ hlj hb => by simp [conc, hlj, ← hb]) ?_
            have hHR : HeldR P ops (masks ops.toList []) ρ st.g.next ⟨i, o, st.tm, v⟩ ((fun j => conc (masks ops.toList []) i j && !(lightAt P ops j)), fun w => (execOp a.eval o).run P w = .ok (.value (v.toV ρ)) w) := ⟨rfl, hf, a, h.tm, hl.2, rfl⟩
            have hDD : HeldsR P ops (masks ops.toList []) ρ st.g.next (⟨i, o, st.tm, v⟩ :: D) (((fun j => conc (masks ops.toList []) i j && !(lightAt P ops j)), fun w => (execOp a.eval o).run P w = .ok (.value (v.toV ρ)) w) :: ds) := ⟨hHR, hD⟩
            exact ih (listed.setIfInBounds i true) _ (((fun j => conc (masks ops.toList []) i j && !(lightAt P ops j)), fun w => (execOp a.eval o).run P w = .ok (.value (v.toV ρ)) w) :: ds) ⟨putL st.tm o.dst v, st.g⟩ (a.put o.dst (v.toV ρ)) w ρ K (light_put hdst h hl.2) hdown'
              hDD hk hQ'
        have skip : Region.wanted o (yielded ops a.tmps) = false → drawL P (Ok P) ops (masks ops.toList []) fuel (listed.setIfInBounds i true) D ⟨putL st.tm o.dst undefL, st.g⟩ K →
            wpAnyD P ops (lightAt P ops) Q ds (fuel + 1) listed a w := fun hw hk => plain undefL (undef_ok _ _) (fun _ => .inr ⟨hw, rfl⟩) hk
        unfold lightStep at hK
        split at hK
        · rename_i hg
          obtain ⟨v, hv, hk⟩ := vK_elim hK
          exact held v st.tm rfl hv (by simp [Region.wanted, hg]) hk
        · rename_i j want hg
          split at hK
          · exact hK.elim
          · rename_i d hdj
            split at hK
            · rename_i hb
              have hw := wanted_of h.tm hg hdj hb
              rw [putL_same hb] at hK
              cases want with
              | true =>
                obtain ⟨v, hv, hk⟩ := vK_elim (by simpa using hK)
                exact held v _ rfl hv (by rw [hw]; rfl) hk
              | false => exact skip (by rw [hw]; rfl) (by simpa using hK)
            · rename_i hb
              have hw := wanted_of h.tm hg hdj hb
              rw [putL_same hb] at hK
              cases want with
              | true => exact skip (by rw [hw]; rfl) (by simpa using hK)
              | false =>
                obtain ⟨v, hv, hk⟩ := vK_elim (by simpa using hK)
                exact held v _ rfl hv (by rw [hw]; rfl) hk
            · rename_i hb
              exact skip (wanted_undef h.tm hg hdj hb) hK
            · exact hK.elim
      · -- whichever comes up
        refine ⟨fun e => (by rw [hr] at e; cases e), fun i hi => ?_⟩
        have hK := allL_spec hK i (by rw [← hr]; exact hi)
        split at hK
        · rename_i o ho
          have hmo : o ∈ ops.toList := by
            have := Array.mem_of_getElem? ho
            simpa using this
          obtain ⟨hf, hdst⟩ := hfine o hmo
          split at hK
          · exact hK.elim
          · rename_i hkind
            have hli : lightAt P ops i = false := by simp [lightAt, ho, hkind]
            refine wpOp_mono ?_ (step_sound ho hf hdst h hK)
            rintro a' w' ⟨st', ρ', h1, h2, h3, h4, h5⟩
            have hD' := hD.ext h1 h2
            refine ⟨fun e => (by rw [hli] at e; cases e), fun d hd hdi => hD'.met h3.rel h4 d hd hdi, ?_⟩
            exact ih (listed.setIfInBounds i true) D ds st' a' w' ρ' K h3 (down_set hdown hi) hD' h5 (fun a'' w'' hl => hQ' _ _ (hl.trans h1 h2))
        · exact hK.elim


theorem draw_region_sound {N id : Nat} {ops : Array Oper} {Q : Exit → Act → World → Prop} {st : LSt} {a : Act} {K : LSt → Prop} (hm : P.follows .mixedOrders = true) (hfine : ∀ o ∈ ops.toList, fineOp o = true ∧ dstOK N o = true)
    (hsel : ∀ (j : Nat) (o : Oper) cs b, ops[j]? = some o → o.op ≠ .select cs b) (hQ : ∀ c a w, ¬ Q (.panic c) a w) (h : SRel W keep ρ N st a w)
    (hK : drawL P (Ok P) ops (masks ops.toList []) ops.size (Array.replicate ops.size false) [] st K) (hQ' : ∀ a w, Later W keep ρ N st.g.next K a w → Q .normal a w) : (Code.region id ops true).wp P Q a w := by
  refine wp_region_any hm (wpAny_of_D (D := []) (L := lightAt P ops) _ _ _ _ ?_)
  refine draw_sound hfine hsel hQ ops.size _ [] [] st a _ ρ K ⟨h.rel.drawn, h.tm, h.size, h.defers⟩ ?_ trivial hK hQ'
  intro j o hj hl
  exfalso
  rw [Array.getD_eq_getD_getElem?, Array.getElem?_replicate] at hl
  split at hl <;> simp at hl

end Go.Lm
