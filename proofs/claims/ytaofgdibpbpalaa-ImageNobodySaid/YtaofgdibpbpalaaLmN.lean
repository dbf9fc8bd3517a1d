/-
  The logical machine, part N: a region, in the order of its text; a region that draws its order.
-/
import Derived.Test.YtaofgdibpbpalaaLmM
import Derived.OrdersHeld
namespace Go.Lm

variable {P : Program} {W : World} {keep : Nat → Prop} {ρ : Ren} {g : LHeap} {w : World}

/-! ### Light operations: they yield a value and leave the heap alone -/
def convLightL (P : Program) (s d : TypeId) (x : LV) (g : LHeap) : Option LV :=
  match P.underlying d with
  | some (.int _) | some .string => (convL P s d x g).map (·.1)
  | _ => none
def lightV (P : Program) (tm : Nat → LV) (op : Op) (g : LHeap) : Option LV :=
  match op with
  | .move x | .assign x => some (evL tm x)
  | .pick c a b => pickL (evL tm c) (evL tm a) (evL tm b)
  | .build t parts => buildL P t (parts.toList.map fun p => (p.1, evL tm p.2))
  | .load t a => loadT P t (evL tm a) g
  | .nilCheck x => nilCheckL (evL tm x)
  | .binOp op t x y _ => binL P op t (isConstO x || isConstO y) (evL tm x) (evL tm y)
  | .unOp op _ x => unL op (evL tm x)
  | .convert s d x => convLightL P s d (evL tm x) g
  | .makeInterface t x => ifaceL P t (evL tm x)
  | .slice t x lo hi mx => cutT P t (evL tm x) (lo.map (evL tm)) (hi.map (evL tm)) (mx.map (evL tm)) (limL (evL tm x) g)
  | .fieldAddr s x f => fieldAddrT P s f (evL tm x)
  | .field s x f => fieldVT P s f (evL tm x)
  | .indexAddr t x ix => ixAddrT P t (evL tm x) (evL tm ix)
  | .index t x ix => indexT P t (evL tm x) (evL tm ix)
  | .lookup t x k ok => lookupL P t (evL tm x) (evL tm k) ok g
  | .typeAssert x _ t ok => assertL P (evL tm x) t ok
  | .extract x i => extractL (evL tm x) i
  | .call c =>
    match c.callee with
    | .builtin .len => match c.argTypes.toList, c.args.toList.map (evL tm) with
      | t :: _, x :: _ => lenL P t x g
      | _, _ => none
    | _ => none
  | _ => none
/-- Is it light? and does what it yields hang on the heap? -/
def kindO (P : Program) : Op → Option Bool
  | .move _ | .assign _ | .pick .. | .build .. | .nilCheck _ | .binOp .. | .unOp .. | .makeInterface .. | .slice .. | .fieldAddr .. | .field .. | .indexAddr .. | .index .. | .typeAssert .. | .extract .. => some false
  | .load .. | .lookup .. => some true
  | .convert s d _ => match P.underlying d with
    | some (.int _) => some false
    | some .string => match P.underlying s with
      | some (.slice _) => some true
      | _ => some false
    | _ => none
  | .call c => match c.callee with
    | .builtin .len => match (c.argTypes.toList.head?).bind P.underlying with
      | some (.map _ _) => some true
      | _ => some false
    | _ => none
  | _ => none

/-- What a light operation yields it yields in each world that holds the heap. -/
def Light (P : Program) (ρ : Ren) (n : Nat) (w : World) (a : Act) (o : Oper) (v : LV) : Prop := (execOp a.eval o).run P w = .ok (.value (v.toV ρ)) w ∧ v.ok ρ n
theorem light_of {o : Oper} {a : Act} {n : Nat} {s : Sem Value} {v : LV} (he : execOp a.eval o = (do pure (.value (← s)) : Sem Next)) (hs : Yields1 P ρ n w s v) : Light P ρ n w a o v :=
  ⟨by rw [he, run_bind_ok hs.1]; rfl, hs.2⟩

theorem simple_conv {s d : TypeId} {x v : LV} (h : Rel W keep ρ g w) (hc : convLightL P s d x g = some v) : Yields1 P ρ g.next w (convert s d (x.toV ρ)) v := by
  unfold convLightL at hc
  split at hc
  · rename_i k hd
    obtain ⟨⟨v', g'⟩, e, e2⟩ := Option.map_eq_some_iff.1 hc
    simp only at e2
    subst e2
    exact (sim_convY h (fun e' he => by rw [hd] at he; cases he) e).1
  · rename_i hd
    obtain ⟨⟨v', g'⟩, e, e2⟩ := Option.map_eq_some_iff.1 hc
    simp only at e2
    subst e2
    exact (sim_convY h (fun e' he => by rw [hd] at he; cases he) e).1
  · cases hc

theorem light_sound {tm : Nat → LV} {o : Oper} {a : Act} {v : LV} (hf : fineOp o = true) (h : Rel W keep ρ g w) (ht : TRel ρ g.next tm a.tmps) (hv : lightV P tm o.op g = some v) :
    Light P ρ g.next w a o v := by
  have hfine : ∀ x ∈ o.op.operands, fineO x = true := fun x hx => Array.all_eq_true_iff_forall_mem.1 hf x hx
  have ev : ∀ x ∈ o.op.operands, a.eval x = (evL tm x).toV ρ ∧ (evL tm x).ok ρ g.next := fun x hx => ev_val ht x (hfine x hx)
  obtain ⟨dst, op, type, pos, after, guard⟩ := o
  simp only at hv
  unfold lightV at hv
  split at hv <;> simp only [Op.operands] at ev hfine
  case h_1 x => cases hv; exact light_of (s := pure (a.eval x)) rfl ⟨by rw [run_pure, (ev x (by simp)).1], (ev x (by simp)).2⟩
  case h_2 x => cases hv; exact light_of (s := pure (a.eval x)) rfl ⟨by rw [run_pure, (ev x (by simp)).1], (ev x (by simp)).2⟩
  case h_3 c x y =>
    unfold pickL at hv
    have hc := ev c (by simp)
    split at hv
    · rename_i e
      cases hv
      refine light_of (s := pure (a.eval x)) ?_ ⟨by rw [run_pure, (ev x (by simp)).1], (ev x (by simp)).2⟩
      simp only [execOp, hc.1, e, LV.toV]
      rfl
    · rename_i e
      cases hv
      refine light_of (s := pure (a.eval y)) ?_ ⟨by rw [run_pure, (ev y (by simp)).1], (ev y (by simp)).2⟩
      simp only [execOp, hc.1, e, LV.toV]
      rfl
    · cases hv
  case h_4 t parts =>
    obtain ⟨p1, p2⟩ := parts_val ht parts.toList (fun x hx => hfine x.2 (List.mem_toArray.2 (List.mem_map.2 ⟨x, hx, rfl⟩)))
    have e : parts.map (fun p => (p.1, a.eval p.2)) = ((parts.toList.map fun p => (p.1, evL tm p.2)).map fun p => (p.1, p.2.toV ρ)).toArray := by
      rw [← p1]; apply Array.ext'; simp
    have hm := sim_build (P := P) (w := w) p2 hv
    rw [← e] at hm
    exact light_of rfl hm
  case h_5 t x => exact light_of (s := Instr.loadAt t ((evL tm x).toV ρ)) (by simp only [execOp, (ev x (by simp)).1]) (sim_load h hv)
  case h_6 x =>
    have hx := ev x (by simp)
    have he := nilCheck_spec hv
    refine light_of (s := pure ((evL tm x).toV ρ)) ?_ ⟨by rw [run_pure, he.1], by rw [he.1]; exact hx.2⟩
    simp only [execOp, hx.1]
    unfold nilCheckL at hv
    split at hv
    · rename_i e; rw [e]; rfl
    · rename_i e; rw [e]; rfl
    · rename_i e; rw [e]; rfl
    · cases hv
  case h_7 op t x y yt =>
    exact light_of (s := do eqGuard op t x y ((evL tm x).toV ρ) ((evL tm y).toV ρ); binOp op t ((evL tm x).toV ρ) ((evL tm y).toV ρ)) (by simp only [execOp, (ev x (by simp)).1, (ev y (by simp)).1]) (sim_bin hv)
  case h_8 op t x => exact light_of (s := Op.unary op ((evL tm x).toV ρ)) (by simp only [execOp, (ev x (by simp)).1]) (sim_un hv _ _ _)
  case h_9 s d x => exact light_of (s := convert s d ((evL tm x).toV ρ)) (by simp only [execOp, (ev x (by simp)).1]) (simple_conv h hv)
  case h_10 t x => exact light_of (s := Instr.makeInterface t ((evL tm x).toV ρ)) (by simp only [execOp, (ev x (by simp)).1]) (sim_iface (ev x (by simp)).2 hv)
  case h_11 t x lo hi mx =>
    have hx := ev x (by simp)
    have hop : ∀ (y : Option Operand), (∀ z, y = some z → z ∈ (#[x] ++ lo.toArray ++ hi.toArray ++ mx.toArray : Array Operand)) → y.map a.eval = (y.map (evL tm)).map (LV.toV ρ) := by
      intro y hy
      cases y with
      | none => rfl
      | some z => simp only [Option.map_some, (ev z (hy z rfl)).1]
    refine light_of (s := Instr.sliceAt t ((evL tm x).toV ρ) ((lo.map (evL tm)).map (LV.toV ρ)) ((hi.map (evL tm)).map (LV.toV ρ)) ((mx.map (evL tm)).map (LV.toV ρ))) ?_ (sim_cut hx.2 (limL_ok h hx.2) hv)
    simp only [execOp, hx.1]
    rw [hop lo (fun z hz => by subst hz; simp), hop hi (fun z hz => by subst hz; simp), hop mx (fun z hz => by subst hz; simp)]
  case h_12 t x f => exact light_of (s := Instr.fieldAt t ((evL tm x).toV ρ) f) (by simp only [execOp, (ev x (by simp)).1]) (sim_fieldAddr (ev x (by simp)).2 hv)
  case h_13 t x f => exact light_of (s := Instr.field t ((evL tm x).toV ρ) f) (by simp only [execOp, (ev x (by simp)).1]) (sim_field (ev x (by simp)).2 hv)
  case h_14 t x ix => exact light_of (s := Instr.indexAt t ((evL tm x).toV ρ) ((evL tm ix).toV ρ)) (by simp only [execOp, (ev x (by simp)).1, (ev ix (by simp)).1]) (sim_indexAddr (ev x (by simp)).2 hv)
  case h_15 t x ix => exact light_of (s := Instr.index t ((evL tm x).toV ρ) ((evL tm ix).toV ρ)) (by simp only [execOp, (ev x (by simp)).1, (ev ix (by simp)).1]) (sim_index (ev x (by simp)).2 hv)
  case h_16 t x k ok => exact light_of (s := Instr.lookup t ((evL tm x).toV ρ) ((evL tm k).toV ρ) ok) (by simp only [execOp, (ev x (by simp)).1, (ev k (by simp)).1]) (sim_lookup h hv)
  case h_17 x xt t ok => exact light_of (s := Instr.typeAssert ((evL tm x).toV ρ) xt t ok) (by simp only [execOp, (ev x (by simp)).1]) (sim_assert (ev x (by simp)).2 hv)
  case h_18 x i => exact light_of (s := Instr.extract ((evL tm x).toV ρ) i) (by simp only [execOp, (ev x (by simp)).1]) (sim_extract (ev x (by simp)).2 hv)
  case h_19 c =>
    obtain ⟨callee, args, argTypes⟩ := c
    simp only at hv
    split at hv
    · have hargs : ∀ x ∈ args.toList, fineO x = true := fun x hx => hfine x (by
        have : x ∈ args := by simpa using hx
        simp [Call.operands, this])
      obtain ⟨a1, a2⟩ := evs_val ht args.toList hargs
      have a1' : args.map a.eval = (toVs ρ (args.toList.map (evL tm))).toArray := by rw [← a1]; apply Array.ext'; simp
      split at hv
      · rename_i t tl x xl hts has
        have h0 : argTypes[0]? = some t := by rw [← Array.getElem?_toList, hts]; rfl
        obtain ⟨r1, r2⟩ := sim_len (P := P) (ty := type) (rest := toVs ρ xl) h h0 hv
        refine ⟨?_, r2⟩
        simp only [execOp, resolve]
        rw [run_bind_ok (run_pure P _ w)]
        simp only [invoke, builtin]
        rw [a1', has]
        rw [show toVs ρ (x :: xl) = x.toV ρ :: toVs ρ xl from rfl, run_bind_ok r1]
        rfl
      · cases hv
    · cases hv
  case h_20 => cases hv

/-! ### Those that do not look at the heap -/
theorem pure_conv {s d : TypeId} {x v : LV} {n : Nat} (hk : kindO P (.convert s d (.tmp 0)) = some false) (hc : convLightL P s d x g = some v) (w : World) : Yields1 P ρ n w (convert s d (x.toV ρ)) v := by
  unfold convLightL at hc
  unfold kindO at hk
  simp only at hk
  split at hc
  · rename_i k hd
    obtain ⟨⟨v', g'⟩, e, e2⟩ := Option.map_eq_some_iff.1 hc
    simp only at e2
    subst e2
    unfold convL at e
    rw [hd] at e
    split at e
    · rename_i sd k' hs hd'
      cases hd'
      split at e
      · cases e
        refine ⟨?_, by simp [LV.ok]⟩
        simp only [convert, LV.toV]
        rw [run_bind_ok (run_underlying' hs w), run_bind_ok (run_underlying' hd w)]
        cases sd <;> rfl
      · cases e
    · rename_i hd'; cases hd'
    · rename_i hd'; cases hd'
    · rename_i hd'; cases hd'
    · rename_i hd'; cases hd'
    · cases e
  · rename_i hd
    obtain ⟨⟨v', g'⟩, e, e2⟩ := Option.map_eq_some_iff.1 hc
    simp only at e2
    subst e2
    rw [hd] at hk
    simp only at hk
    unfold convL at e
    rw [hd] at e
    split at e
    · rename_i hd'; cases hd'
    · rename_i hd'; cases hd'
    · rename_i e' hs hd'
      rw [hs] at hk
      simp at hk
    · rename_i hs hd'
      split at e
      · cases e
        refine ⟨?_, by simp [LV.ok]⟩
        simp only [convert, LV.toV]
        rw [run_bind_ok (run_underlying' hs w), run_bind_ok (run_underlying' hd w)]
        rfl
      · cases e
    · rename_i hd'; cases hd'
    · cases e
  · cases hc
theorem pure_len {t : TypeId} {x v : LV} {ts : Array TypeId} {ty : TypeId} {rest : List Value} {n : Nat} (hm : ∀ k e, P.underlying t ≠ some (.map k e)) (ht : ts[0]? = some t) (hl : lenL P t x g = some v) (w : World) :
    Yields1 P ρ n w (Builtin.len_ ts ty (x.toV ρ :: rest).toArray) v := by
  have h0 : ((x.toV ρ :: rest).toArray)[0]? = some (x.toV ρ) := rfl
  unfold lenL at hl
  split at hl
  · rename_i s hd
    cases hl
    refine ⟨?_, by simp [LV.ok]⟩
    simp only [Builtin.len_, ht, h0]
    rw [run_bind_ok (run_underlying' hd w)]
    simp [LV.toV, goInt, ByteArray.size]
  · rename_i n e hd
    cases hl
    refine ⟨?_, by simp [LV.ok]⟩
    simp only [Builtin.len_, ht, h0]
    rw [run_bind_ok (run_underlying' hd w)]
    simp [LV.toV, goInt]
  · rename_i a hd
    split at hl
    · rename_i n e ha
      cases hl
      refine ⟨?_, by simp [LV.ok]⟩
      simp only [Builtin.len_, ht, h0]
      rw [run_bind_ok (run_underlying' hd w)]
      simp only
      rw [run_bind_ok (run_underlying' ha w)]
      simp [LV.toV, goInt]
    · cases hl
  · rename_i e hd
    cases hl
    refine ⟨?_, by simp [LV.ok]⟩
    simp only [Builtin.len_, ht, h0]
    rw [run_bind_ok (run_underlying' hd w)]
    simp [LV.toV, goInt]
  · rename_i e hd
    cases hl
    refine ⟨?_, by simp [LV.ok]⟩
    simp only [Builtin.len_, ht, h0]
    rw [run_bind_ok (run_underlying' hd w)]
    simp [LV.toV, goInt]
  · rename_i e a off len c hd
    cases hl
    obtain ⟨cap, hv⟩ := slice_toV ρ a off len c
    refine ⟨?_, by simp [LV.ok]⟩
    simp only [Builtin.len_, ht, h0]
    rw [run_bind_ok (run_underlying' hd w), hv]
    simp [LV.toV, goInt]
  · rename_i k e hd; exact absurd hd (hm k e)
  · rename_i k e a hd; exact absurd hd (hm k e)
  · cases hl

theorem pure_sound {tm : Nat → LV} {o : Oper} {a : Act} {v : LV} {w0 : World} (hf : fineOp o = true) (h : Rel W keep ρ g w0) (hk : kindO P o.op = some false) (ht : TRel ρ g.next tm a.tmps) (hv : lightV P tm o.op g = some v) (w : World) :
    Light P ρ g.next w a o v := by
  have hfine : ∀ x ∈ o.op.operands, fineO x = true := fun x hx => Array.all_eq_true_iff_forall_mem.1 hf x hx
  have ev : ∀ x ∈ o.op.operands, a.eval x = (evL tm x).toV ρ ∧ (evL tm x).ok ρ g.next := fun x hx => ev_val ht x (hfine x hx)
  obtain ⟨dst, op, type, pos, after, guard⟩ := o
  simp only at hv hk
  unfold lightV at hv
  split at hv <;> simp only [Op.operands] at ev hfine
  case h_1 x => cases hv; exact light_of (s := pure (a.eval x)) rfl ⟨by rw [run_pure, (ev x (by simp)).1], (ev x (by simp)).2⟩
  case h_2 x => cases hv; exact light_of (s := pure (a.eval x)) rfl ⟨by rw [run_pure, (ev x (by simp)).1], (ev x (by simp)).2⟩
  case h_3 c x y =>
    unfold pickL at hv
    have hc := ev c (by simp)
    split at hv
    · rename_i e
      cases hv
      refine light_of (s := pure (a.eval x)) ?_ ⟨by rw [run_pure, (ev x (by simp)).1], (ev x (by simp)).2⟩
      simp only [execOp, hc.1, e, LV.toV]
      rfl
    · rename_i e
      cases hv
      refine light_of (s := pure (a.eval y)) ?_ ⟨by rw [run_pure, (ev y (by simp)).1], (ev y (by simp)).2⟩
      simp only [execOp, hc.1, e, LV.toV]
      rfl
    · cases hv
  case h_4 t parts =>
    obtain ⟨p1, p2⟩ := parts_val ht parts.toList (fun x hx => hfine x.2 (List.mem_toArray.2 (List.mem_map.2 ⟨x, hx, rfl⟩)))
    have e : parts.map (fun p => (p.1, a.eval p.2)) = ((parts.toList.map fun p => (p.1, evL tm p.2)).map fun p => (p.1, p.2.toV ρ)).toArray := by
      rw [← p1]; apply Array.ext'; simp
    have hm := sim_build (P := P) (w := w) p2 hv
    rw [← e] at hm
    exact light_of rfl hm
  case h_5 t x => simp [kindO] at hk
  case h_6 x =>
    have hx := ev x (by simp)
    have he := nilCheck_spec hv
    refine light_of (s := pure ((evL tm x).toV ρ)) ?_ ⟨by rw [run_pure, he.1], by rw [he.1]; exact hx.2⟩
    simp only [execOp, hx.1]
    unfold nilCheckL at hv
    split at hv
    · rename_i e; rw [e]; rfl
    · rename_i e; rw [e]; rfl
    · rename_i e; rw [e]; rfl
    · cases hv
  case h_7 op t x y yt =>
    exact light_of (s := do eqGuard op t x y ((evL tm x).toV ρ) ((evL tm y).toV ρ); binOp op t ((evL tm x).toV ρ) ((evL tm y).toV ρ)) (by simp only [execOp, (ev x (by simp)).1, (ev y (by simp)).1]) (sim_bin hv)
  case h_8 op t x => exact light_of (s := Op.unary op ((evL tm x).toV ρ)) (by simp only [execOp, (ev x (by simp)).1]) (sim_un hv _ _ _)
  case h_9 s d x => exact light_of (s := convert s d ((evL tm x).toV ρ)) (by simp only [execOp, (ev x (by simp)).1]) (pure_conv (s := s) (d := d) (by simpa [kindO] using hk) hv w)
  case h_10 t x => exact light_of (s := Instr.makeInterface t ((evL tm x).toV ρ)) (by simp only [execOp, (ev x (by simp)).1]) (sim_iface (ev x (by simp)).2 hv)
  case h_11 t x lo hi mx =>
    have hx := ev x (by simp)
    have hop : ∀ (y : Option Operand), (∀ z, y = some z → z ∈ (#[x] ++ lo.toArray ++ hi.toArray ++ mx.toArray : Array Operand)) → y.map a.eval = (y.map (evL tm)).map (LV.toV ρ) := by
      intro y hy
      cases y with
      | none => rfl
      | some z => simp only [Option.map_some, (ev z (hy z rfl)).1]
    refine light_of (s := Instr.sliceAt t ((evL tm x).toV ρ) ((lo.map (evL tm)).map (LV.toV ρ)) ((hi.map (evL tm)).map (LV.toV ρ)) ((mx.map (evL tm)).map (LV.toV ρ))) ?_ (sim_cut hx.2 (limL_ok h hx.2) hv)
    simp only [execOp, hx.1]
    rw [hop lo (fun z hz => by subst hz; simp), hop hi (fun z hz => by subst hz; simp), hop mx (fun z hz => by subst hz; simp)]
  case h_12 t x f => exact light_of (s := Instr.fieldAt t ((evL tm x).toV ρ) f) (by simp only [execOp, (ev x (by simp)).1]) (sim_fieldAddr (ev x (by simp)).2 hv)
  case h_13 t x f => exact light_of (s := Instr.field t ((evL tm x).toV ρ) f) (by simp only [execOp, (ev x (by simp)).1]) (sim_field (ev x (by simp)).2 hv)
  case h_14 t x ix => exact light_of (s := Instr.indexAt t ((evL tm x).toV ρ) ((evL tm ix).toV ρ)) (by simp only [execOp, (ev x (by simp)).1, (ev ix (by simp)).1]) (sim_indexAddr (ev x (by simp)).2 hv)
  case h_15 t x ix => exact light_of (s := Instr.index t ((evL tm x).toV ρ) ((evL tm ix).toV ρ)) (by simp only [execOp, (ev x (by simp)).1, (ev ix (by simp)).1]) (sim_index (ev x (by simp)).2 hv)
  case h_16 t x k ok => simp [kindO] at hk
  case h_17 x xt t ok => exact light_of (s := Instr.typeAssert ((evL tm x).toV ρ) xt t ok) (by simp only [execOp, (ev x (by simp)).1]) (sim_assert (ev x (by simp)).2 hv)
  case h_18 x i => exact light_of (s := Instr.extract ((evL tm x).toV ρ) i) (by simp only [execOp, (ev x (by simp)).1]) (sim_extract (ev x (by simp)).2 hv)
  case h_19 c =>
    obtain ⟨callee, args, argTypes⟩ := c
    simp only at hv
    split at hv
    · have hargs : ∀ x ∈ args.toList, fineO x = true := fun x hx => hfine x (by
        have : x ∈ args := by simpa using hx
        simp [Call.operands, this])
      obtain ⟨a1, a2⟩ := evs_val ht args.toList hargs
      have a1' : args.map a.eval = (toVs ρ (args.toList.map (evL tm))).toArray := by rw [← a1]; apply Array.ext'; simp
      split at hv
      · rename_i t tl x xl hts has
        have h0 : argTypes[0]? = some t := by rw [← Array.getElem?_toList, hts]; rfl
        have hm : ∀ k e, P.underlying t ≠ some (.map k e) := by
          intro k e he
          simp [kindO, hts, he] at hk
        obtain ⟨r1, r2⟩ := pure_len (P := P) (ρ := ρ) (n := g.next) (ty := type) (rest := toVs ρ xl) hm h0 hv w
        refine ⟨?_, r2⟩
        simp only [execOp, resolve]
        rw [run_bind_ok (run_pure P _ w)]
        simp only [invoke, builtin]
        rw [a1', has]
        rw [show toVs ρ (x :: xl) = x.toV ρ :: toVs ρ xl from rfl, run_bind_ok r1]
        rfl
      · cases hv
    · cases hv
  case h_20 => cases hv

end Go.Lm
