/-
  The logical machine, part Q: code, and functions.
-/
import Derived.Test.YtaofgdibpbpalaaLmP
import Derived.Scope
namespace Go.Lm

variable {P : Program} {W : World} {keep : Nat → Prop} {ρ : Ren} {g : LHeap} {w : World}

def exitL (id : Nat) (K : LEx → LSt → Prop) : LEx → LSt → Prop := fun e st =>
  match e with
  | .exit id' => if Nat.beq id' id then K .normal st else K (.exit id') st
  | e => K e st
def thenL (k : LSt → Prop) (K : LEx → LSt → Prop) : LEx → LSt → Prop := fun e st =>
  match e with
  | .normal => k st
  | e => K e st
/-- What a piece of code does. -/
def codeL (P : Program) (C : CallSem) : Code → LSt → (LEx → LSt → Prop) → Prop
  | .skip, st, K => K .normal st
  | .region _ ops true, st, K => drawL P C ops (masks ops.toList []) ops.size (Array.replicate ops.size false) [] st (K .normal)
  | .region _ ops false, st, K => runL P C ops ops.toList st (K .normal)
  | .seq a b, st, K => codeL P C a st (thenL (fun st' => codeL P C b st' K) K)
  | .cond c a b, st, K =>
    match evL st.tm c with
    | .bool true => codeL P C a st K
    | .bool false => codeL P C b st K
    | _ => False
  | .block id b, st, K => codeL P C b st (exitL id K)
  | .loop b, st, K => loopL (codeL P C b) st K
  | .exit id, st, K => K (.exit id) st
  | .ret, st, K => K .ret st
  | .scope b, st, K => codeL P C b st K
  | .label _, st, K => K .normal st
  | _, _, _ => False

def isSelect : Op → Bool
  | .select _ _ => true
  | _ => false
def fineOps (N : Nat) (ops : Array Oper) : Bool := ops.toList.all fun o => fineOp o && dstOK N o && !isSelect o.op
/-- Code in which each constant and slot is known to the logical machine. -/
def fineC (N : Nat) : Code → Bool
  | .region _ ops _ => fineOps N ops
  | .seq a b => fineC N a && fineC N b
  | .cond c a b => fineO c && fineC N a && fineC N b
  | .block _ b => fineC N b
  | .loop b => fineC N b
  | .scope b => fineC N b
  | _ => true

/-- What holds behind the code, in the world. -/
def QOf (W : World) (keep : Nat → Prop) (ρ : Ren) (N n : Nat) (K : LEx → LSt → Prop) : Exit → Act → World → Prop
  | .normal, a, w => Later W keep ρ N n (K .normal) a w
  | .exit id, a, w => Later W keep ρ N n (K (.exit id)) a w
  | .ret, a, w => Later W keep ρ N n (K .ret) a w
  | _, _, _ => False

theorem QOf.trans {N n m : Nat} {ρ1 : Ren} {K : LEx → LSt → Prop} {e : Exit} {a : Act} {w : World} (hx : Ren.Ext n ρ ρ1) (hnm : n ≤ m) (h : QOf W keep ρ1 N m K e a w) : QOf W keep ρ N n K e a w := by
  cases e <;> first | exact Later.trans hx hnm h | exact h

theorem wp_loop_ghost {S : Type} {c : Code} {Q : Exit → Act → World → Prop} (R : S → Act → World → Prop) (μ : S → Nat) {a : Act} {w : World} (s0 : S) (h₀ : R s0 a w)
    (round : ∀ s a w, R s a w → c.wp P (Exit.then (fun a' w' => ∃ s', R s' a' w' ∧ μ s' < μ s) Q) a w) : (Code.loop c).wp P Q a w := by
  intro b k cs
  have key : ∀ n s a w, μ s = n → R s a w →
      ∃ e a' w', Q e a' w' ∧ Arrives P (lone (b.at a (.code c :: .inLoop c :: k)) cs w) b k cs e a' w' := by
    intro n
    induction n using Nat.strongRecOn with
    | _ n ih =>
      intro s a w hn hI
      obtain ⟨e, a₁, w₁, hq, harr⟩ := round s a w hI b (.inLoop c :: k) cs
      cases e with
      | normal =>
        obtain ⟨s', hI₁, hlt⟩ := hq
        obtain ⟨e₂, a₂, w₂, hq₂, harr₂⟩ := ih (μ s') (hn ▸ hlt) s' a₁ w₁ rfl hI₁
        exact ⟨e₂, a₂, w₂, hq₂, .of_steps (Steps.trans harr (.one step_inLoop)) harr₂⟩
      | exit id => exact ⟨_, a₁, w₁, hq, .pass (x := .inLoop c) rfl (fun _ _ => .inl (by simp)) harr⟩
      | goto l => exact ⟨_, a₁, w₁, hq, .pass (x := .inLoop c) rfl (fun _ _ => .inl (by simp)) harr⟩
      | ret => exact ⟨_, a₁, w₁, hq, .pass (x := .inLoop c) rfl (fun _ _ => .inl (by simp)) harr⟩
      | panic ch => exact ⟨_, a₁, w₁, hq, .pass (x := .inLoop c) rfl (fun _ _ => .inl (by simp)) harr⟩
      | outgrown => exact ⟨_, a₁, w₁, hq, .pass (x := .inLoop c) rfl (fun _ _ => .inl (by simp)) harr⟩
  obtain ⟨e, a', w', hq, harr⟩ := key _ s0 a w rfl h₀
  exact ⟨e, a', w', hq, .of_steps (.one step_loop) harr⟩

theorem fineOps_spec {N : Nat} {ops : Array Oper} (h : fineOps N ops = true) : (∀ o ∈ ops.toList, fineOp o = true ∧ dstOK N o = true) ∧ (∀ (j : Nat) (o : Oper) cs b, ops[j]? = some o → o.op ≠ .select cs b) := by
  have h1 : ∀ o ∈ ops.toList, (fineOp o = true ∧ dstOK N o = true) ∧ isSelect o.op = false := fun o ho => by
    have := List.all_eq_true.1 h o ho
    simpa only [Bool.and_eq_true, Bool.not_eq_true'] using this
  refine ⟨fun o ho => (h1 o ho).1, fun j o cs b hj e => ?_⟩
  have hm : o ∈ ops.toList := by
    have := Array.mem_of_getElem? hj
    simpa using this
  have := (h1 o hm).2
  rw [e] at this
  cases this

theorem code_sound (hm : P.follows .mixedOrders = true) {N : Nat} : ∀ (c : Code) (st : LSt) (a : Act) (w : World) (ρ : Ren) (K : LEx → LSt → Prop), fineC N c = true → SRel W keep ρ N st a w → codeL P (Ok P) c st K →
    c.wp P (QOf W keep ρ N st.g.next K) a w := by
  intro c
  induction c with
  | skip =>
    intro st a w ρ K hf h hK
    exact wp_skip ⟨st, ρ, Ren.Ext.refl _ _, Nat.le_refl _, h, hK⟩
  | region id ops d =>
    intro st a w ρ K hf h hK
    obtain ⟨h1, h2⟩ := fineOps_spec hf
    cases d with
    | true => exact draw_region_sound hm h1 h2 (fun _ _ _ hq => hq) h hK (fun _ _ hl => hl)
    | false => exact region_sound h1 h hK (fun _ _ hl => hl)
  | seq x y ihx ihy =>
    intro st a w ρ K hf h hK
    simp only [fineC, Bool.and_eq_true] at hf
    refine wp_seq (wp_mono (ihx st a w ρ _ hf.1 h hK) ?_)
    intro e a' w' hq
    cases e with
    | normal =>
      obtain ⟨st', ρ', h1, h2, h3, h4⟩ := hq
      exact wp_mono (ihy st' a' w' ρ' K hf.2 h3 h4) (fun _ _ _ hq => hq.trans h1 h2)
    | _ => exact hq
  | cond x y z ihy ihz =>
    intro st a w ρ K hf h hK
    simp only [fineC, Bool.and_eq_true] at hf
    have hx := (ev_val h.tm x hf.1.1).1
    simp only [codeL] at hK
    split at hK
    · rename_i e; exact wp_cond_true (by rw [hx, e]; rfl) (ihy st a w ρ K hf.1.2 h hK)
    · rename_i e; exact wp_cond_false (by rw [hx, e]; rfl) (ihz st a w ρ K hf.2 h hK)
    · exact hK.elim
  | block id b ih =>
    intro st a w ρ K hf h hK
    refine wp_block (wp_mono (ih st a w ρ _ hf h hK) ?_)
    intro e a' w' hq
    cases e with
    | exit id' =>
      simp only [QOf, Exit.inBlock] at hq ⊢
      by_cases he : id' = id
      · subst he
        rw [if_pos rfl]
        refine Later.mono hq fun st hk => ?_
        simpa [exitL] using hk
      · rw [if_neg he]
        refine Later.mono hq fun st hk => ?_
        have : Nat.beq id' id = false := by
          cases hb : Nat.beq id' id with
          | false => rfl
          | true => exact absurd (Nat.eq_of_beq_eq_true hb) he
        simpa [exitL, this] using hk
    | _ => exact hq
  | loop b ih =>
    intro st a w ρ K hf h hK
    obtain ⟨I, μ, hI, hr⟩ := hK
    refine wp_loop_ghost (S := LSt) (fun s a w => I s ∧ ∃ ρ', Ren.Ext st.g.next ρ ρ' ∧ st.g.next ≤ s.g.next ∧ SRel W keep ρ' N s a w) μ st ⟨hI, ρ, Ren.Ext.refl _ _, Nat.le_refl _, h⟩ ?_
    rintro s a' w' ⟨hIs, ρ', h1, h2, h3⟩
    refine wp_mono (ih s a' w' ρ' _ hf h3 (hr s hIs)) ?_
    intro e a'' w'' hq
    cases e with
    | normal =>
      obtain ⟨s', ρ'', k1, k2, k3, k4, k5⟩ := hq
      exact ⟨s', ⟨k4, ρ'', h1.trans k1 h2, Nat.le_trans h2 k2, k3⟩, k5⟩
    | exit id => exact QOf.trans (e := .exit id) h1 h2 hq
    | ret => exact QOf.trans (e := .ret) h1 h2 hq
    | _ => exact hq
  | exit id =>
    intro st a w ρ K hf h hK
    exact wp_exit ⟨st, ρ, Ren.Ext.refl _ _, Nat.le_refl _, h, hK⟩
  | ret =>
    intro st a w ρ K hf h hK
    exact wp_ret ⟨st, ρ, Ren.Ext.refl _ _, Nat.le_refl _, h, hK⟩
  | scope b ih =>
    intro st a w ρ K hf h hK
    refine wp_scope_straight (wp_mono (ih st a w ρ _ hf h hK) ?_)
    intro e a' w' hq
    cases e <;> exact hq
  | label l =>
    intro st a w ρ K hf h hK
    exact wp_label ⟨st, ρ, Ren.Ext.refl _ _, Nat.le_refl _, h, hK⟩
  | _ => intro st a w ρ K hf h hK; exact hK.elim
/-- What is not known to the logical machine is taken out: there nothing is promised. -/
def pruneC (N : Nat) : Code → Code
  | .region id ops d => match fineOps N ops with
    | true => .region id ops d
    | false => .goto 0
  | .seq a b => .seq (pruneC N a) (pruneC N b)
  | .cond c a b => match fineO c with
    | true => .cond c (pruneC N a) (pruneC N b)
    | false => .goto 0
  | .block id b => .block id (pruneC N b)
  | .loop b => .loop (pruneC N b)
  | .scope b => .scope (pruneC N b)
  | c => c
theorem prune_sound (hm : P.follows .mixedOrders = true) {N : Nat} : ∀ (c : Code) (st : LSt) (a : Act) (w : World) (ρ : Ren) (K : LEx → LSt → Prop), SRel W keep ρ N st a w → codeL P (Ok P) (pruneC N c) st K →
    c.wp P (QOf W keep ρ N st.g.next K) a w := by
  intro c
  induction c with
  | region id ops d =>
    intro st a w ρ K h hK
    simp only [pruneC] at hK
    split at hK
    · rename_i hf; exact code_sound hm (.region id ops d) st a w ρ K hf h hK
    · exact hK.elim
  | seq x y ihx ihy =>
    intro st a w ρ K h hK
    refine wp_seq (wp_mono (ihx st a w ρ _ h hK) ?_)
    intro e a' w' hq
    cases e with
    | normal =>
      obtain ⟨st', ρ', h1, h2, h3, h4⟩ := hq
      exact wp_mono (ihy st' a' w' ρ' K h3 h4) (fun _ _ _ hq => hq.trans h1 h2)
    | _ => exact hq
  | cond x y z ihy ihz =>
    intro st a w ρ K h hK
    simp only [pruneC] at hK
    split at hK
    · rename_i hf
      have hx := (ev_val h.tm x hf).1
      simp only [codeL] at hK
      split at hK
      · rename_i e; exact wp_cond_true (by rw [hx, e]; rfl) (ihy st a w ρ K h hK)
      · rename_i e; exact wp_cond_false (by rw [hx, e]; rfl) (ihz st a w ρ K h hK)
      · exact hK.elim
    · exact hK.elim
  | block id b ih =>
    intro st a w ρ K h hK
    refine wp_block (wp_mono (ih st a w ρ _ h hK) ?_)
    intro e a' w' hq
    cases e with
    | exit id' =>
      simp only [QOf, Exit.inBlock] at hq ⊢
      by_cases he : id' = id
      · subst he
        rw [if_pos rfl]
        refine Later.mono hq fun st hk => ?_
        simpa [exitL] using hk
      · rw [if_neg he]
        refine Later.mono hq fun st hk => ?_
        have : Nat.beq id' id = false := by
          cases hb : Nat.beq id' id with
          | false => rfl
          | true => exact absurd (Nat.eq_of_beq_eq_true hb) he
        simpa [exitL, this] using hk
    | _ => exact hq
  | loop b ih =>
    intro st a w ρ K h hK
    obtain ⟨I, μ, hI, hr⟩ := hK
    refine wp_loop_ghost (S := LSt) (fun s a w => I s ∧ ∃ ρ', Ren.Ext st.g.next ρ ρ' ∧ st.g.next ≤ s.g.next ∧ SRel W keep ρ' N s a w) μ st ⟨hI, ρ, Ren.Ext.refl _ _, Nat.le_refl _, h⟩ ?_
    rintro s a' w' ⟨hIs, ρ', h1, h2, h3⟩
    refine wp_mono (ih s a' w' ρ' _ h3 (hr s hIs)) ?_
    intro e a'' w'' hq
    cases e with
    | normal =>
      obtain ⟨s', ρ'', k1, k2, k3, k4, k5⟩ := hq
      exact ⟨s', ⟨k4, ρ'', h1.trans k1 h2, Nat.le_trans h2 k2, k3⟩, k5⟩
    | exit id => exact QOf.trans (e := .exit id) h1 h2 hq
    | ret => exact QOf.trans (e := .ret) h1 h2 hq
    | _ => exact hq
  | scope b ih =>
    intro st a w ρ K h hK
    refine wp_scope_straight (wp_mono (ih st a w ρ _ h hK) ?_)
    intro e a' w' hq
    cases e <;> exact hq
  | skip => intro st a w ρ K h hK; exact code_sound hm .skip st a w ρ K rfl h hK
  | exit id => intro st a w ρ K h hK; exact code_sound hm (.exit id) st a w ρ K rfl h hK
  | ret => intro st a w ρ K h hK; exact code_sound hm .ret st a w ρ K rfl h hK
  | label l => intro st a w ρ K h hK; exact code_sound hm (.label l) st a w ρ K rfl h hK
  | _ => intro st a w ρ K h hK; exact hK.elim

/-! ### A function -/
def startL (args : List LV) : Nat → LV := fun i => args.getD i undefL
def resL (P : Program) (tm : Nat → LV) (g : LHeap) : List ResultVar → Option (List LV)
  | [] => some []
  | .tmp t :: rs => match resL P tm g rs with
    | some vs => some (tm t :: vs)
    | none => none
  | .cell a t :: rs => match loadT P t (tm a) g, resL P tm g rs with
    | some v, some vs => some (v :: vs)
    | _, _ => none
def oneL : List LV → LV
  | [v] => v
  | vs => .tuple vs
def endL (P : Program) (fn : Func) (K : LV → LHeap → Prop) : LEx → LSt → Prop := fun e st =>
  match e with
  | .exit _ => False
  | _ => match resL P st.tm st.g fn.results.toList with
    | some vs => K (oneL vs) st.g
    | none => False

theorem oneL_toV (ρ : Ren) (vs : List LV) : (oneL vs).toV ρ = (if h : (toVs ρ vs).toArray.size = 1 then (toVs ρ vs).toArray[0] else .tuple (toVs ρ vs).toArray) := by
  match vs with
  | [] => simp [oneL, toVs, LV.toV]
  | [v] => simp [oneL, toVs]
  | v :: u :: vs => simp [oneL, toVs, LV.toV]
theorem oneL_ok {n : Nat} {vs : List LV} (h : oks ρ n vs) : (oneL vs).ok ρ n := by
  match vs with
  | [] => simp [oneL, LV.ok, oks]
  | [v] => exact h.1
  | v :: u :: vs => simpa only [oneL, LV.ok] using h
theorem res_sound {tm : Nat → LV} {tmps : Array Value} (h : Rel W keep ρ g w) (ht : TRel ρ g.next tm tmps) : ∀ (rs : List ResultVar) (vs : List LV), resL P tm g rs = some vs →
    (rs.mapM (m := Sem) fun
      | .tmp t => pure (tmps.getD t undef)
      | .cell a t => do loadVar t (← asAddr (tmps.getD a undef))).run P w = .ok (toVs ρ vs) w ∧ oks ρ g.next vs := by
  intro rs
  induction rs with
  | nil => intro vs hv; simp [resL] at hv; subst hv; exact ⟨rfl, by simp [oks]⟩
  | cons r rs ih =>
    intro vs hv
    rw [List.mapM_cons]
    cases r with
    | tmp t =>
      simp only [resL] at hv
      split at hv
      · rename_i us hus
        cases hv
        obtain ⟨h1, h2⟩ := ih us hus
        refine ⟨?_, ht.ok t, h2⟩
        rw [run_bind_ok (run_pure P _ w), run_bind_ok h1]
        simp only [toVs, ht.val t]
        rfl
      · cases hv
    | cell a t =>
      simp only [resL] at hv
      split at hv
      · rename_i v us hv1 hus
        cases hv
        obtain ⟨h1, h2⟩ := ih us hus
        obtain ⟨r1, r2⟩ := sim_load (P := P) h hv1
        refine ⟨?_, r2, h2⟩
        have hp : ∃ b off, tm a = .ptr b off := by
          unfold loadT at hv1
          split at hv1
          · unfold loadV at hv1
            split at hv1
            · rename_i e; exact ⟨_, _, e⟩
            · cases hv1
          · cases hv1
        obtain ⟨b, off, e⟩ := hp
        have r1' : (do loadVar t (← asAddr (tmps.getD a undef)) : Sem Value).run P w = .ok (v.toV ρ) w := by
          rw [ht.val a, e]
          rw [e] at r1
          exact r1
        rw [run_bind_ok r1', run_bind_ok h1]
        rfl
      · cases hv

/-- A function's contract, out of what its body does. -/
theorem ok_of_code {f : FuncId} {fn : Func} {c : Code} {args : List LV} {K : LV → LHeap → Prop} (hm : P.follows .mixedOrders = true) (hf : P.funcs[f]? = some fn) (hb : fn.body = some c) (hn : (fn.name == "runtime.NumGoroutine") = false)
    (hfine : fineC fn.ntmps c = true) (hlen : args.length ≤ fn.ntmps) (hK : codeL P (Ok P) c ⟨startL args, g⟩ (endL P fn K)) : Ok P f args g K := by
  refine ⟨⟨fn, c, hf, hb, hn⟩, fun W keep ρ w h hargs => ?_⟩
  refine calls_of_wp hf hb ?_
  have hst : SRel W keep ρ fn.ntmps ⟨startL args, g⟩ { tmps := (toVs ρ args).toArray ++ Array.replicate (fn.ntmps - (toVs ρ args).toArray.size) undef, defers := [] } w := by
    refine ⟨h, ⟨fun t => ?_, fun t => ?_⟩, ?_, rfl⟩
    · simp only [startL]
      rw [Array.getD_eq_getD_getElem?, List.getD_eq_getElem?_getD]
      by_cases ht : t < args.length
      · rw [Array.getElem?_append_left (by simp [toVs_length]; exact ht)]
        simp [toVs_getElem?, List.getElem?_eq_getElem ht]
      · rw [Array.getElem?_append_right (by simp [toVs_length]; omega), Array.getElem?_replicate]
        rw [List.getElem?_eq_none (by omega)]
        split <;> rfl
    · simp only [startL, List.getD_eq_getElem?_getD]
      cases ha : args[t]? with
      | none => exact undef_ok _ _
      | some v => exact (oks_iff _ _ _).1 hargs v (List.mem_of_getElem? ha)
    · simp [toVs_length]; omega
  refine wp_mono (code_sound hm c _ _ _ ρ _ hfine hst hK) ?_
  intro e a' w' hq
  have fin : ∀ e', (e' = .normal ∨ e' = .ret) → Later W keep ρ fn.ntmps g.next (endL P fn K e') a' w' → a'.defers = [] ∧ ∃ v, (results fn a'.tmps).run P w' = .ok v w' ∧ ∃ u g' ρ', Ending.returned v = .returned (u.toV ρ') ∧ Post W keep ρ g u g' ρ' w' ∧ K u g' := by
    rintro e' he ⟨st, ρ', h1, h2, h3, h4⟩
    refine ⟨h3.defers, ?_⟩
    have h5 : match resL P st.tm st.g fn.results.toList with
      | some vs => K (oneL vs) st.g
      | none => False := by rcases he with rfl | rfl <;> exact h4
    cases hr : resL P st.tm st.g fn.results.toList with
    | none => rw [hr] at h5; exact h5.elim
    | some vs =>
      rw [hr] at h5
      obtain ⟨r1, r2⟩ := res_sound (P := P) h3.rel h3.tm _ _ hr
      refine ⟨(oneL vs).toV ρ', ?_, oneL vs, st.g, ρ', rfl, ⟨h1, h3.rel, oneL_ok r2, h2⟩, h5⟩
      simp only [results]
      rw [Array.mapM_eq_mapM_toList, map_eq_pure_bind]
      rw [oneL_toV]
      have : ((fn.results.toList.mapM (m := Sem) fun
        | .tmp t => pure (a'.tmps.getD t undef)
        | .cell b t => do loadVar t (← asAddr (a'.tmps.getD b undef))) >>= fun a => pure a.toArray).run P w' = .ok (toVs ρ' vs).toArray w' := by
        rw [run_bind_ok r1]; rfl
      refine Eq.trans (run_bind_ok this) ?_
      rfl
  cases e with
  | normal =>
    obtain ⟨hd, v, hr, u, g', ρ', e1, e2, e3⟩ := fin .normal (.inl rfl) hq
    exact ⟨hd, v, hr, u, g', ρ', e1, e2, e3⟩
  | ret =>
    obtain ⟨hd, v, hr, u, g', ρ', e1, e2, e3⟩ := fin .ret (.inr rfl) hq
    exact ⟨hd, v, hr, u, g', ρ', e1, e2, e3⟩
  | exit id =>
    obtain ⟨st, ρ', _, _, _, h4⟩ := hq
    exact h4.elim
  | _ => exact hq.elim

/-- A function's contract, out of what its body does. -/
theorem ok_of_prune {f : FuncId} {fn : Func} {c : Code} {args : List LV} {K : LV → LHeap → Prop} (hm : P.follows .mixedOrders = true) (hf : P.funcs[f]? = some fn) (hb : fn.body = some c) (hn : (fn.name == "runtime.NumGoroutine") = false)
    (hlen : args.length ≤ fn.ntmps) (hK : codeL P (Ok P) (pruneC fn.ntmps c) ⟨startL args, g⟩ (endL P fn K)) : Ok P f args g K := by
  refine ⟨⟨fn, c, hf, hb, hn⟩, fun W keep ρ w h hargs => ?_⟩
  refine calls_of_wp hf hb ?_
  have hst : SRel W keep ρ fn.ntmps ⟨startL args, g⟩ { tmps := (toVs ρ args).toArray ++ Array.replicate (fn.ntmps - (toVs ρ args).toArray.size) undef, defers := [] } w := by
    refine ⟨h, ⟨fun t => ?_, fun t => ?_⟩, ?_, rfl⟩
    · simp only [startL]
      rw [Array.getD_eq_getD_getElem?, List.getD_eq_getElem?_getD]
      by_cases ht : t < args.length
      · rw [Array.getElem?_append_left (by simp [toVs_length]; exact ht)]
        simp [toVs_getElem?, List.getElem?_eq_getElem ht]
      · rw [Array.getElem?_append_right (by simp [toVs_length]; omega), Array.getElem?_replicate]
        rw [List.getElem?_eq_none (by omega)]
        split <;> rfl
    · simp only [startL, List.getD_eq_getElem?_getD]
      cases ha : args[t]? with
      | none => exact undef_ok _ _
      | some v => exact (oks_iff _ _ _).1 hargs v (List.mem_of_getElem? ha)
    · simp [toVs_length]; omega
  refine wp_mono (prune_sound hm c _ _ _ ρ _ hst hK) ?_
  intro e a' w' hq
  have fin : ∀ e', (e' = .normal ∨ e' = .ret) → Later W keep ρ fn.ntmps g.next (endL P fn K e') a' w' → a'.defers = [] ∧ ∃ v, (results fn a'.tmps).run P w' = .ok v w' ∧ ∃ u g' ρ', Ending.returned v = .returned (u.toV ρ') ∧ Post W keep ρ g u g' ρ' w' ∧ K u g' := by
    rintro e' he ⟨st, ρ', h1, h2, h3, h4⟩
    refine ⟨h3.defers, ?_⟩
    have h5 : match resL P st.tm st.g fn.results.toList with
      | some vs => K (oneL vs) st.g
      | none => False := by rcases he with rfl | rfl <;> exact h4
    cases hr : resL P st.tm st.g fn.results.toList with
    | none => rw [hr] at h5; exact h5.elim
    | some vs =>
      rw [hr] at h5
      obtain ⟨r1, r2⟩ := res_sound (P := P) h3.rel h3.tm _ _ hr
      refine ⟨(oneL vs).toV ρ', ?_, oneL vs, st.g, ρ', rfl, ⟨h1, h3.rel, oneL_ok r2, h2⟩, h5⟩
      simp only [results]
      rw [Array.mapM_eq_mapM_toList, map_eq_pure_bind]
      rw [oneL_toV]
      have : ((fn.results.toList.mapM (m := Sem) fun
        | .tmp t => pure (a'.tmps.getD t undef)
        | .cell b t => do loadVar t (← asAddr (a'.tmps.getD b undef))) >>= fun a => pure a.toArray).run P w' = .ok (toVs ρ' vs).toArray w' := by
        rw [run_bind_ok r1]; rfl
      refine Eq.trans (run_bind_ok this) ?_
      rfl
  cases e with
  | normal =>
    obtain ⟨hd, v, hr, u, g', ρ', e1, e2, e3⟩ := fin .normal (.inl rfl) hq
    exact ⟨hd, v, hr, u, g', ρ', e1, e2, e3⟩
  | ret =>
    obtain ⟨hd, v, hr, u, g', ρ', e1, e2, e3⟩ := fin .ret (.inr rfl) hq
    exact ⟨hd, v, hr, u, g', ρ', e1, e2, e3⟩
  | exit id =>
    obtain ⟨st, ρ', _, _, _, h4⟩ := hq
    exact h4.elim
  | _ => exact hq.elim

end Go.Lm
