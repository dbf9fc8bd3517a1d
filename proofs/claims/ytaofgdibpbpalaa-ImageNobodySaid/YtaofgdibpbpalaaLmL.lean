/-
  The logical machine, part L: an operation, as a whole.
-/
import Derived.Test.YtaofgdibpbpalaaLmK
namespace Go.Lm

variable {P : Program} {W : World} {keep : Nat → Prop} {ρ : Ren} {g : LHeap} {w : World}

/-- Whatever a map's iterator may yield next. -/
theorem sim_nextMap {it : LV} {K : LV → LHeap → Prop} {ty : TypeId} (h : Rel W keep ρ g w) (hn : nextMapL it g K) :
    ∃ v g' ρ' w', (Instr.next (it.toV ρ) false ty).run P w = .ok (v.toV ρ') w' ∧ Post W keep ρ g v g' ρ' w' ∧ K v g' := by
  unfold nextMapL at hn
  split at hn
  · rename_i r
    split at hn
    · rename_i since seen stepped hg
      obtain ⟨hlt, hb, _, hh⟩ := h.obj r _ hg
      refine ⟨_, _, ρ, w, ?_, Post.same h (by simp [LV.ok, oks]), hn⟩
      rw [ptr_iter hb]
      simp only [Instr.next]
      rw [run_bind_ok (run_getIter hh (by simp))]
      rfl
    · rename_i m since seen last hg
      split at hn
      · rename_i es clock own hm
        obtain ⟨hlt, hb, hbm, hh⟩ := h.obj r _ hg
        obtain ⟨n1, n2, n3⟩ := hn
        have hes := (h.obj m _ hm).2.1
        -- the candidates
        have hall : (!seen.toArray.isEmpty && !((es.map (toE ρ)).toArray).isEmpty && ((es.map (toE ρ)).toArray).all (fun e => decide (e.born ≥ last))) = false := by
          rw [← n1]
          simp [toE, Function.comp_def]; rfl
        have hleft : (((es.map (toE ρ)).toArray).filter fun e => !seen.toArray.contains e.born) = ((es.filter fun e => !seen.contains e.2.2).map (toE ρ)).toArray := by
          simp [List.filter_map, toE, Function.comp_def]; rfl
        have hold : ((((es.filter fun e => !seen.contains e.2.2).map (toE ρ)).toArray).filter fun e => decide (e.born < since)) = (((es.filter fun e => !seen.contains e.2.2).filter fun e => decide (e.2.2 < since)).map (toE ρ)).toArray := by
          simp [List.filter_map, toE, Function.comp_def]; rfl
        have hnew : ((((es.filter fun e => !seen.contains e.2.2).map (toE ρ)).toArray).filter fun e => decide (e.born ≥ since)) = (((es.filter fun e => !seen.contains e.2.2).filter fun e => decide (e.2.2 ≥ since)).map (toE ρ)).toArray := by
          simp [List.filter_map, toE, Function.comp_def]; rfl
        generalize hO : (es.filter fun e => !seen.contains e.2.2).filter (fun e => decide (e.2.2 < since)) = O at *
        generalize hN : (es.filter fun e => !seen.contains e.2.2).filter (fun e => decide (e.2.2 ≥ since)) = N at *
        have hmem : ∀ e ∈ O ++ N, e ∈ es ∧ seen.contains e.2.2 = false := by
          intro e he
          rcases List.mem_append.1 he with he | he
          · rw [← hO] at he
            have := (List.mem_filter.1 he).1
            exact ⟨(List.mem_filter.1 this).1, by simpa using (List.mem_filter.1 this).2⟩
          · rw [← hN] at he
            have := (List.mem_filter.1 he).1
            exact ⟨(List.mem_filter.1 this).1, by simpa using (List.mem_filter.1 this).2⟩
        let cands : List (Option MapEntry) := (if O = [] then [none] else []) ++ (O ++ N).map fun e => some (toE ρ e)
        have hc : ((if ((O.map (toE ρ)).toArray).isEmpty then #[none] else #[]) ++ ((O.map (toE ρ)).toArray ++ (N.map (toE ρ)).toArray).map some) = cands.toArray := by
          cases O with
          | nil => simp [cands, Function.comp_def]
          | cons x xs => simp [cands, Function.comp_def]
        have hpos : 0 < cands.length := by
          cases O with
          | nil => simp [cands]
          | cons x xs => simp [cands]
        have hch : ∃ k n', k < cands.length ∧ (choose (.mapNext cands.length)).run P w = .ok k { w with drawn := n' } := by
          by_cases h1 : cands.length ≤ 1
          · refine ⟨0, w.drawn, hpos, ?_⟩
            simp [choose, Sem.run, Question.forced, h1]
          · refine ⟨_, w.drawn + 1, Nat.mod_lt (w.tape w.drawn (.mapNext cands.length)) hpos, ?_⟩
            simp [choose, Sem.run, Question.forced, Question.cut, h1]
        obtain ⟨k, n', hk, hrun⟩ := hch
        have hd : Rel W keep ρ g { w with drawn := n' } := h.drawn
        have start : ∀ r' : Result Value, ((match cands.toArray[k]? with
            | some (some e) => do
              setObj (ρ.blk r) (.mapIter (some (ρ.blk m)) since (seen.toArray.push e.born) clock)
              pure (.tuple #[.bool true, e.key, e.val])
            | some none => pure (.tuple #[.bool false])
            | none => stuck "Next: no such candidate" : Sem Value)).run P { w with drawn := n' } = r' →
            (Instr.next ((LV.ptr r 0).toV ρ) false ty).run P w = r' := by
          intro r' hr'
          rw [ptr_iter hb]
          simp only [Instr.next]
          rw [run_bind_ok (run_getIter hh (by simp))]
          simp only [Option.map_some]
          rw [run_bind_ok (run_getMap h hm)]
          simp only [hall, Bool.false_eq_true, if_false]
          rw [hleft, hold, hnew, hc, List.size_toArray, run_bind_ok hrun]
          exact hr'
        cases hck : cands[k]? with
        | none => rw [List.getElem?_eq_none_iff] at hck; omega
        | some c =>
          cases c with
          | none =>
            have hO0 : O = [] := by
              cases O with
              | nil => rfl
              | cons x xs =>
                simp only [cands, List.cons_ne_nil, if_false, List.nil_append, List.getElem?_map, Option.map_eq_some_iff] at hck
                obtain ⟨_, _, e⟩ := hck
                cases e
            refine ⟨_, _, ρ, { w with drawn := n' }, start _ ?_, Post.same hd (by simp [LV.ok, oks]), n2 hO0⟩
            rw [List.getElem?_toArray, hck]
            rfl
          | some e =>
            have hex : ∃ x ∈ O ++ N, e = toE ρ x := by
              have : some e ∈ cands := List.mem_of_getElem? hck
              simp only [cands, List.mem_append, List.mem_map] at this
              rcases this with hh | ⟨x, hx, hxe⟩
              · split at hh <;> simp at hh
              · exact ⟨x, List.mem_append.2 hx, (Option.some.inj hxe).symm⟩
            obtain ⟨x, hx, rfl⟩ := hex
            obtain ⟨hxm, hxs⟩ := hmem x hx
            have hxo := hes x hxm
            refine ⟨.tuple [.bool true, x.1, x.2.1], _, ρ, { w with drawn := n', heap := w.heap.setIfInBounds (ρ.blk r) (.mapIter (some (ρ.blk m)) since (seen.toArray.push x.2.2) clock) }, start _ ?_, ⟨Ren.Ext.refl _ _, ?_, ?_, ?_⟩, n3 x hxm hxs⟩
            · rw [List.getElem?_toArray, hck]
              simp only [toE]
              rw [run_bind_ok (run_setIter (w := { w with drawn := n' }) hh (by simp))]
              simp [LV.toV, toVs]
            · refine hd.turn hg rfl ⟨hb, hbm, ?_⟩
              have := (Array.getElem?_eq_some_iff.1 hh).1
              simp [this]
            · simp only [LV.ok, oks, LHeap.next_set]
              exact ⟨trivial, hxo.1, hxo.2, trivial⟩
            · simp
      · exact hn.elim
    · exact hn.elim
  · exact hn.elim

theorem sim_entry {it v : LV} (h : Rel W keep ρ g w) (hn : entryL it g = some v) : Yields1 P ρ g.next w (Instr.entry (it.toV ρ)) v := by
  unfold entryL at hn
  split at hn
  · rename_i r
    split at hn
    · rename_i m since seen stepped hg
      obtain ⟨hlt, hb, hbm, hh⟩ := h.obj r _ hg
      split at hn
      · rename_i stamp es clock own hl hm
        split at hn
        · rename_i hcl
          split at hn
          · rename_i e he
            cases hn
            have hes := (h.obj m _ hm).2.1 e (List.mem_of_find?_eq_some he)
            refine ⟨?_, by simp only [LV.ok, oks]; exact ⟨hes.1, hes.2, trivial⟩⟩
            rw [ptr_iter hb]
            simp only [Instr.entry]
            rw [run_bind_ok (run_getIter hh (by simp))]
            have hback : seen.toArray.back? = some stamp := by simpa using hl
            simp only [Option.map_some, hback]
            rw [run_bind_ok (run_getMap h hm)]
            have hfind : ((es.map (toE ρ)).toArray).find? (fun e => e.born == stamp) = some (toE ρ e) := by
              have : (fun e : MapEntry => e.born == stamp) ∘ toE ρ = fun e => e.2.2 == stamp := rfl
              simp only [List.find?_toArray, List.find?_map, this, he, Option.map_some]
            simp only [hcl, bne_self_eq_false, Bool.false_eq_true, if_false, hfind]
            rfl
          · cases hn
        · cases hn
      · cases hn
    · cases hn
  · cases hn

/-! ### Operands -/
structure TRel (ρ : Ren) (n : Nat) (tm : Nat → LV) (tmps : Array Value) : Prop where
  val : ∀ t, tmps.getD t undef = (tm t).toV ρ
  ok : ∀ t, (tm t).ok ρ n
def fineO : Operand → Bool
  | .const v => (ofV 6 v).isSome
  | .global _ => false
  | _ => true
theorem ev_val {n : Nat} {tm : Nat → LV} {a : Act} (ht : TRel ρ n tm a.tmps) (x : Operand) (hx : fineO x = true) : a.eval x = (evL tm x).toV ρ ∧ (evL tm x).ok ρ n := by
  cases x with
  | tmp t => exact ⟨ht.val t, ht.ok t⟩
  | const v =>
    simp only [fineO, Option.isSome_iff_exists] at hx
    obtain ⟨l, hl⟩ := hx
    obtain ⟨h1, h2⟩ := ofV_ok ρ n _ _ _ hl
    simp only [evL, constL, hl, Option.getD_some, Act.eval]
    exact ⟨h1.symm, h2⟩
  | global g => simp [fineO] at hx
  | func f => exact ⟨rfl, by simp [evL, LV.ok, oks]⟩

/-- A function is called in the heap g: it returns some v in some g' for which K holds. -/
def Ok (P : Program) : CallSem := fun f args g K =>
  (∃ fn c, P.funcs[f]? = some fn ∧ fn.body = some c ∧ (fn.name == "runtime.NumGoroutine") = false) ∧
  ∀ W keep ρ w, Rel W keep ρ g w → oks ρ g.next args →
    Calls P f (toVs ρ args).toArray w fun e w' => ∃ v g' ρ', e = .returned (v.toV ρ') ∧ Post W keep ρ g v g' ρ' w' ∧ K v g'
theorem Ok.mono {f : FuncId} {args : List LV} {K K' : LV → LHeap → Prop} (h : Ok P f args g K) (hK : ∀ v g', K v g' → K' v g') : Ok P f args g K' :=
  ⟨h.1, fun W keep ρ w hr ha => (h.2 W keep ρ w hr ha).mono fun _ _ ⟨v, g', ρ', h1, h2, h3⟩ => ⟨v, g', ρ', h1, h2, hK _ _ h3⟩⟩

theorem run_callFunc {f : FuncId} {fn : Func} {c : Code} (hf : P.funcs[f]? = some fn) (hb : fn.body = some c) (hn : (fn.name == "runtime.NumGoroutine") = false) (args : Array Value) (w : World) :
    (callFunc f args).run P w = .ok (.enter f args) w := by
  simp only [callFunc]
  rw [run_bind_ok (run_program P w)]
  simp only [hf, hn, Bool.false_eq_true, if_false, hb, Option.isNone_some]
  rfl

/-- What is left behind an operation. -/
def Next1 (W : World) (keep : Nat → Prop) (ρ : Ren) (g : LHeap) (a : Act) (dst : Option Tmp) (K : LV → LHeap → Prop) : Act → World → Prop := fun a' w' =>
  ∃ v g' ρ', Post W keep ρ g v g' ρ' w' ∧ a' = a.put dst (v.toV ρ') ∧ K v g'

theorem wp_yields {o : Oper} {a : Act} {K : LV → LHeap → Prop} {Q : Exit → Act → World → Prop} {s : Sem Value} {v : LV} (h : Rel W keep ρ g w) (he : execOp a.eval o = (do pure (.value (← s)) : Sem Next))
    (hs : Yields1 P ρ g.next w s v) (hK : K v g) : o.wp P a w (Next1 W keep ρ g a o.dst K) Q := by
  unfold Oper.wp
  rw [he, run_bind_ok hs.1, run_pure, Oper.upon_value]
  exact ⟨v, g, ρ, Post.same h hs.2, rfl, hK⟩
theorem wp_makes {o : Oper} {a : Act} {K : LV → LHeap → Prop} {Q : Exit → Act → World → Prop} {s : Sem Value} {v : LV} {g' : LHeap} (he : execOp a.eval o = (do pure (.value (← s)) : Sem Next))
    (hs : Makes P W keep ρ g w s v g') (hK : K v g') : o.wp P a w (Next1 W keep ρ g a o.dst K) Q := by
  obtain ⟨ρ', w', h1, h2⟩ := hs
  unfold Oper.wp
  rw [he, run_bind_ok h1, run_pure, Oper.upon_value]
  exact ⟨v, g', ρ', h2, rfl, hK⟩
theorem wp_turns {o : Oper} {a : Act} {K : LV → LHeap → Prop} {Q : Exit → Act → World → Prop} {s : Sem Unit} {g' : LHeap} (he : execOp a.eval o = (do s; pure .skip : Sem Next))
    (hs : Turns P W keep ρ g w s g') (hK : K undefL g') : o.wp P a w (Next1 W keep ρ g a o.dst K) Q := by
  obtain ⟨w', h1, h2, h3⟩ := hs
  unfold Oper.wp
  rw [he, run_bind_ok h1, run_pure, Oper.upon_skip]
  exact ⟨undefL, g', ρ, ⟨Ren.Ext.refl _ _, h2, by simp [undefL, LV.ok, oks], by rw [h3]; exact Nat.le_refl _⟩, rfl, hK⟩
theorem wp_call {o : Oper} {a : Act} {K : LV → LHeap → Prop} {Q : Exit → Act → World → Prop} {f : FuncId} {args : List LV} (h : Rel W keep ρ g w) (hargs : oks ρ g.next args)
    (hC : Ok P f args g K) (he : (execOp a.eval o).run P w = (callFunc f (toVs ρ args).toArray).run P w) : o.wp P a w (Next1 W keep ρ g a o.dst K) Q := by
  obtain ⟨⟨fn, c, hf, hb, hn⟩, hC⟩ := hC
  unfold Oper.wp
  rw [he, run_callFunc hf hb hn, Oper.upon_enter]
  exact (hC W keep ρ w h hargs).mono fun e w' ⟨v, g', ρ', h1, h2, h3⟩ => by
    subst h1
    exact ⟨v, g', ρ', h2, rfl, h3⟩

theorem vK_elim {o : Option LV} {K : LV → Prop} (h : vK o K) : ∃ v, o = some v ∧ K v := by
  cases o with
  | none => exact h.elim
  | some v => exact ⟨v, rfl, h⟩
theorem gK_elim {o : Option LHeap} {K : LHeap → Prop} (h : gK o K) : ∃ v, o = some v ∧ K v := by
  cases o with
  | none => exact h.elim
  | some v => exact ⟨v, rfl, h⟩
theorem oK_elim {o : Option (LV × LHeap)} {K : LV → LHeap → Prop} (h : oK o K) : ∃ v g, o = some (v, g) ∧ K v g := by
  cases o with
  | none => exact h.elim
  | some v => exact ⟨v.1, v.2, rfl, h⟩

theorem eqL_spec {t : TypeId} {lit r : Bool} {x y : LV} (h : eqL P t lit x y = some r) : eqTy P 60 t x y = some r ∧ (∀ a b, x = .agg a → y = .agg b → P.eqGuardType P.depth t = false) ∧ (x = .nili → y = .nili → lit = true) := by
  unfold eqL at h
  split at h
  · split at h
    · cases h
    · rename_i hg
      exact ⟨h, fun _ _ _ _ => by simpa using hg, fun e => by cases e⟩
  · split at h
    · rename_i hl
      exact ⟨h, fun _ _ e => (by cases e), fun _ _ => hl⟩
    · cases h
  · rename_i n1 n2
    exact ⟨h, fun a b e1 e2 => (n1 a b e1 e2).elim, fun e1 e2 => (n2 e1 e2).elim⟩
theorem isConst_eq (x : Operand) : isConstO x = (match x with | .const _ => true | _ => false) := by cases x <;> rfl
theorem toV_nili {x : LV} (h : x.toV ρ = .nilIface) : x = .nili := by
  cases x with
  | nili => rfl
  | slice a off l c => cases c <;> simp [LV.toV] at h
  | _ => simp [LV.toV] at h
theorem toV_agg {x : LV} {c : Array Value} (h : x.toV ρ = .agg c) : ∃ cs, x = .agg cs := by
  cases x with
  | agg cs => exact ⟨cs, rfl⟩
  | slice a off l c => cases c <;> simp [LV.toV] at h
  | _ => simp [LV.toV] at h
theorem run_eqGuard {op : BinOp} {t : TypeId} {x y : Operand} {a b : LV} {r : Bool} (h : eqL P t (isConstO x || isConstO y) a b = some r) (w : World) :
    (eqGuard op t x y (a.toV ρ) (b.toV ρ)).run P w = .ok () w := by
  obtain ⟨_, h2, h3⟩ := eqL_spec h
  cases op <;> first | rfl | skip
  all_goals
    simp only [eqGuard, Bool.not_true, Bool.false_eq_true, if_false]
    split
    · rename_i e1 e2
      have hl := h3 (toV_nili e1) (toV_nili e2)
      cases x <;> cases y <;> first | rfl | (simp [isConstO] at hl)
    · rename_i ca cb e1 e2
      obtain ⟨_, ea⟩ := toV_agg e1
      obtain ⟨_, eb⟩ := toV_agg e2
      have hg := h2 _ _ ea eb
      rw [run_bind_ok (run_program P w), run_bind_ok (run_program P w)]
      simp only [hg]
      rfl
    · rfl
theorem binOp_eql {t : TypeId} {a b : Value} (h1 : ∀ k m k' n, ¬ (a = .int k m ∧ b = .int k' n)) (h2 : ∀ s u, ¬ (a = .string s ∧ b = .string u)) (h3 : ∀ k m k' n, ¬ (a = .float k m ∧ b = .float k' n)) (h4 : ∀ k m n k' m' n', ¬ (a = .complex k m n ∧ b = .complex k' m' n')) :
    binOp .eql t a b = (do pure (.bool (← Op.equal t a b))) ∧ binOp .neq t a b = (do pure (.bool (!(← Op.equal t a b)))) := by
  constructor
  · unfold binOp
    split <;> first | rfl | (rename_i e1 e2 e3; first | exact (h1 _ _ _ _ ⟨rfl, rfl⟩).elim | exact (h2 _ _ ⟨rfl, rfl⟩).elim | exact (h3 _ _ _ _ ⟨rfl, rfl⟩).elim | exact (h4 _ _ _ _ _ _ ⟨rfl, rfl⟩).elim) | simp_all
  · unfold binOp
    split <;> first | rfl | (rename_i e1 e2 e3; first | exact (h1 _ _ _ _ ⟨rfl, rfl⟩).elim | exact (h2 _ _ ⟨rfl, rfl⟩).elim | exact (h3 _ _ _ _ ⟨rfl, rfl⟩).elim | exact (h4 _ _ _ _ _ _ ⟨rfl, rfl⟩).elim) | simp_all
theorem toV_num {x : LV} : (∀ k n, x.toV ρ ≠ .float k n) ∧ (∀ k m n, x.toV ρ ≠ .complex k m n) ∧ (∀ k n, x.toV ρ = .int k n → x = .int k n) ∧ (∀ s, x.toV ρ = .string s → ∃ l, x = .str l) := by
  cases x with
  | slice a off l c => cases c <;> simp [LV.toV]
  | _ => simp [LV.toV]

theorem strBin_spec {op : BinOp} {a b : List UInt8} {v : LV} (h : strBin op a b = some v) (n : Nat) : Yields1 P ρ n w (Op.stringOp op ⟨a.toArray⟩ ⟨b.toArray⟩) v := by
  have hsz : ∀ l : List UInt8, (⟨l.toArray⟩ : ByteArray).size = l.length := fun l => by simp [ByteArray.size]
  unfold strBin at h
  split at h
  · split at h
    · cases h
    · rename_i hc
      cases h
      refine ⟨?_, by simp [LV.ok]⟩
      simp only [Op.stringOp, hsz]
      rw [if_neg hc]
      simp only [run_pure, LV.toV]
      congr 2
  all_goals first | (cases h; refine ⟨?_, by simp [LV.ok]⟩; simp only [Op.stringOp, toList_mk, run_pure, LV.toV]; done) | cases h

theorem sim_bin {op : BinOp} {t : TypeId} {x y : Operand} {a b v : LV} {n : Nat} (h : binL P op t (isConstO x || isConstO y) a b = some v) :
    Yields1 P ρ n w (do eqGuard op t x y (a.toV ρ) (b.toV ρ); binOp op t (a.toV ρ) (b.toV ρ)) v := by
  unfold binL at h
  split at h
  · rename_i k i k' i'
    obtain ⟨r1, r2⟩ := ofPure_spec (P := P) h ρ n w
    refine ⟨?_, r2⟩
    have hg : (eqGuard op t x y (.int k i) (.int k' i')).run P w = .ok () w := by
      simp only [eqGuard]; split <;> rfl
    simp only [LV.toV]
    rw [run_bind_ok hg]
    exact r1
  · rename_i s u
    obtain ⟨r1, r2⟩ := strBin_spec (P := P) (ρ := ρ) (w := w) h n
    refine ⟨?_, r2⟩
    have hg : (eqGuard op t x y (.string ⟨s.toArray⟩) (.string ⟨u.toArray⟩)).run P w = .ok () w := by
      simp only [eqGuard]; split <;> rfl
    simp only [LV.toV]
    rw [run_bind_ok hg]
    have : binOp op t (.string ⟨s.toArray⟩) (.string ⟨u.toArray⟩) = Op.stringOp op ⟨s.toArray⟩ ⟨u.toArray⟩ := by
      cases op <;> rfl
    rw [this]
    exact r1
  · rename_i n1 n2
    have hb := binOp_eql (t := t) (a := a.toV ρ) (b := b.toV ρ)
      (fun k m k' m' ⟨e1, e2⟩ => n1 k m k' m' (toV_num.2.2.1 _ _ e1) (toV_num.2.2.1 _ _ e2))
      (fun s u ⟨e1, e2⟩ => by
        obtain ⟨l1, f1⟩ := (toV_num (x := a)).2.2.2 _ e1
        obtain ⟨l2, f2⟩ := (toV_num (x := b)).2.2.2 _ e2
        exact n2 _ _ f1 f2)
      (fun k m k' m' ⟨e1, _⟩ => toV_num.1 _ _ e1)
      (fun k m n k' m' n' ⟨e1, _⟩ => toV_num.2.1 _ _ _ e1)
    split at h
    · obtain ⟨r, hr, rfl⟩ := Option.map_eq_some_iff.1 h
      refine ⟨?_, by simp [LV.ok]⟩
      rw [run_bind_ok (run_eqGuard hr w), hb.1, run_bind_ok (run_equal (eqL_spec hr).1 w)]
      rfl
    · obtain ⟨r, hr, rfl⟩ := Option.map_eq_some_iff.1 h
      refine ⟨?_, by simp [LV.ok]⟩
      rw [run_bind_ok (run_eqGuard hr w), hb.2, run_bind_ok (run_equal (eqL_spec hr).1 w)]
      rfl
    · cases h

theorem nilCheck_spec {x v : LV} (h : nilCheckL x = some v) : v = x ∧ (∀ (ρ : Ren), (execOp (fun _ => x.toV ρ) { (default : Oper) with op := .nilCheck (.tmp 0) }) = (pure (.value (x.toV ρ)) : Sem Next)) := by
  unfold nilCheckL at h
  split at h
  · cases h; exact ⟨rfl, fun ρ => rfl⟩
  · cases h; exact ⟨rfl, fun ρ => rfl⟩
  · cases h; exact ⟨rfl, fun ρ => rfl⟩
  · cases h

end Go.Lm
