/-
  The logical machine, part M: every operation is sound.
-/
import Derived.Test.YtaofgdibpbpalaaLmL
import Derived.Lib.Bytealg
namespace Go.Lm

variable {P : Program} {W : World} {keep : Nat → Prop} {ρ : Ren} {g : LHeap} {w : World}

/-- Operands whose values are known to the logical machine. -/
def fineOp (o : Oper) : Bool := o.op.operands.all fineO

theorem evs_val {n : Nat} {tm : Nat → LV} {a : Act} (ht : TRel ρ n tm a.tmps) (l : List Operand) (hl : ∀ x ∈ l, fineO x = true) :
    l.map a.eval = toVs ρ (l.map (evL tm)) ∧ oks ρ n (l.map (evL tm)) := by
  induction l with
  | nil => exact ⟨rfl, by simp [oks]⟩
  | cons x l ih =>
    obtain ⟨h1, h2⟩ := ih (fun y hy => hl y (by simp [hy]))
    obtain ⟨e1, e2⟩ := ev_val ht x (hl x (by simp))
    exact ⟨by simp only [List.map_cons, toVs, h1, e1], e2, h2⟩
theorem parts_val {n : Nat} {tm : Nat → LV} {a : Act} (ht : TRel ρ n tm a.tmps) (l : List (Nat × Operand)) (hl : ∀ x ∈ l, fineO x.2 = true) :
    l.map (fun p => (p.1, a.eval p.2)) = (l.map fun p => (p.1, evL tm p.2)).map (fun p => (p.1, p.2.toV ρ)) ∧ ∀ p ∈ (l.map fun p => (p.1, evL tm p.2)), p.2.ok ρ n := by
  constructor
  · rw [List.map_map]
    exact List.map_congr_left fun p hp => by simp only [Function.comp, (ev_val ht p.2 (hl p hp)).1]
  · intro p hp
    obtain ⟨q, hq, rfl⟩ := List.mem_map.1 hp
    exact (ev_val ht q.2 (hl q hq)).2

theorem os_move {tm : Nat → LV} {dst : Option Tmp} (x : Operand) {type : TypeId} {pos : String} {after : Array Edge} {guard : Option (Nat × Bool)} {a : Act} {K : LV → LHeap → Prop} {Q : Exit → Act → World → Prop}
    (hfine : ∀ oo ∈ (Op.move x).operands, fineO oo = true) (h : Rel W keep ρ g w) (ht : TRel ρ g.next tm a.tmps) (hK : opL P (Ok P) tm ⟨dst, .move x, type, pos, after, guard⟩ g K) :
    Oper.wp P ⟨dst, .move x, type, pos, after, guard⟩ a w (Next1 W keep ρ g a dst K) Q := by
  have ev : ∀ oo ∈ (Op.move x).operands, a.eval oo = (evL tm oo).toV ρ ∧ (evL tm oo).ok ρ g.next := fun x hx => ev_val ht x (hfine x hx)
  unfold opL at hK
  simp only [Op.operands] at ev hfine hK
  exact wp_yields (s := pure (a.eval x)) h rfl ⟨by rw [run_pure, (ev x (by simp)).1], (ev x (by simp)).2⟩ hK

theorem os_assign {tm : Nat → LV} {dst : Option Tmp} (x : Operand) {type : TypeId} {pos : String} {after : Array Edge} {guard : Option (Nat × Bool)} {a : Act} {K : LV → LHeap → Prop} {Q : Exit → Act → World → Prop}
    (hfine : ∀ oo ∈ (Op.assign x).operands, fineO oo = true) (h : Rel W keep ρ g w) (ht : TRel ρ g.next tm a.tmps) (hK : opL P (Ok P) tm ⟨dst, .assign x, type, pos, after, guard⟩ g K) :
    Oper.wp P ⟨dst, .assign x, type, pos, after, guard⟩ a w (Next1 W keep ρ g a dst K) Q := by
  have ev : ∀ oo ∈ (Op.assign x).operands, a.eval oo = (evL tm oo).toV ρ ∧ (evL tm oo).ok ρ g.next := fun x hx => ev_val ht x (hfine x hx)
  unfold opL at hK
  simp only [Op.operands] at ev hfine hK
  exact wp_yields (s := pure (a.eval x)) h rfl ⟨by rw [run_pure, (ev x (by simp)).1], (ev x (by simp)).2⟩ hK

theorem os_pick {tm : Nat → LV} {dst : Option Tmp} (c x y : Operand) {type : TypeId} {pos : String} {after : Array Edge} {guard : Option (Nat × Bool)} {a : Act} {K : LV → LHeap → Prop} {Q : Exit → Act → World → Prop}
    (hfine : ∀ oo ∈ (Op.pick c x y).operands, fineO oo = true) (h : Rel W keep ρ g w) (ht : TRel ρ g.next tm a.tmps) (hK : opL P (Ok P) tm ⟨dst, .pick c x y, type, pos, after, guard⟩ g K) :
    Oper.wp P ⟨dst, .pick c x y, type, pos, after, guard⟩ a w (Next1 W keep ρ g a dst K) Q := by
  have ev : ∀ oo ∈ (Op.pick c x y).operands, a.eval oo = (evL tm oo).toV ρ ∧ (evL tm oo).ok ρ g.next := fun x hx => ev_val ht x (hfine x hx)
  unfold opL at hK
  simp only [Op.operands] at ev hfine hK
  obtain ⟨v, hv, hK⟩ := vK_elim hK
  unfold pickL at hv
  have hc := ev c (by simp)
  split at hv
  · rename_i e
    cases hv
    refine wp_yields (s := pure (a.eval x)) h ?_ ⟨by rw [run_pure, (ev x (by simp)).1], (ev x (by simp)).2⟩ hK
    simp only [execOp, hc.1, e, LV.toV]
    rfl
  · rename_i e
    cases hv
    refine wp_yields (s := pure (a.eval y)) h ?_ ⟨by rw [run_pure, (ev y (by simp)).1], (ev y (by simp)).2⟩ hK
    simp only [execOp, hc.1, e, LV.toV]
    rfl
  · cases hv

theorem os_alloc {tm : Nat → LV} {dst : Option Tmp} (t : TypeId) {type : TypeId} {pos : String} {after : Array Edge} {guard : Option (Nat × Bool)} {a : Act} {K : LV → LHeap → Prop} {Q : Exit → Act → World → Prop}
    (hfine : ∀ oo ∈ (Op.alloc t).operands, fineO oo = true) (h : Rel W keep ρ g w) (ht : TRel ρ g.next tm a.tmps) (hK : opL P (Ok P) tm ⟨dst, .alloc t, type, pos, after, guard⟩ g K) :
    Oper.wp P ⟨dst, .alloc t, type, pos, after, guard⟩ a w (Next1 W keep ρ g a dst K) Q := by
  have ev : ∀ oo ∈ (Op.alloc t).operands, a.eval oo = (evL tm oo).toV ρ ∧ (evL tm oo).ok ρ g.next := fun x hx => ev_val ht x (hfine x hx)
  unfold opL at hK
  simp only [Op.operands] at ev hfine hK
  obtain ⟨z, hz, hK⟩ := vK_elim hK
  obtain ⟨v, g', hn, hK⟩ := oK_elim hK
  exact wp_makes rfl (sim_alloc h hz hn) hK

theorem os_box {tm : Nat → LV} {dst : Option Tmp} (t : TypeId) (x : Operand) {type : TypeId} {pos : String} {after : Array Edge} {guard : Option (Nat × Bool)} {a : Act} {K : LV → LHeap → Prop} {Q : Exit → Act → World → Prop}
    (hfine : ∀ oo ∈ (Op.box t x).operands, fineO oo = true) (h : Rel W keep ρ g w) (ht : TRel ρ g.next tm a.tmps) (hK : opL P (Ok P) tm ⟨dst, .box t x, type, pos, after, guard⟩ g K) :
    Oper.wp P ⟨dst, .box t x, type, pos, after, guard⟩ a w (Next1 W keep ρ g a dst K) Q := by
  have ev : ∀ oo ∈ (Op.box t x).operands, a.eval oo = (evL tm oo).toV ρ ∧ (evL tm oo).ok ρ g.next := fun x hx => ev_val ht x (hfine x hx)
  unfold opL at hK
  simp only [Op.operands] at ev hfine hK
  obtain ⟨v, g', hn, hK⟩ := oK_elim hK
  have hx := ev x (by simp)
  refine wp_makes (s := Instr.box t ((evL tm x).toV ρ)) ?_ (sim_box h hn hx.2) hK
  simp only [execOp, hx.1]

theorem os_build {tm : Nat → LV} {dst : Option Tmp} (t : TypeId) (parts : Array (Nat × Operand)) {type : TypeId} {pos : String} {after : Array Edge} {guard : Option (Nat × Bool)} {a : Act} {K : LV → LHeap → Prop} {Q : Exit → Act → World → Prop}
    (hfine : ∀ oo ∈ (Op.build t parts).operands, fineO oo = true) (h : Rel W keep ρ g w) (ht : TRel ρ g.next tm a.tmps) (hK : opL P (Ok P) tm ⟨dst, .build t parts, type, pos, after, guard⟩ g K) :
    Oper.wp P ⟨dst, .build t parts, type, pos, after, guard⟩ a w (Next1 W keep ρ g a dst K) Q := by
  have ev : ∀ oo ∈ (Op.build t parts).operands, a.eval oo = (evL tm oo).toV ρ ∧ (evL tm oo).ok ρ g.next := fun x hx => ev_val ht x (hfine x hx)
  unfold opL at hK
  simp only [Op.operands] at ev hfine hK
  obtain ⟨v, hv, hK⟩ := vK_elim hK
  obtain ⟨p1, p2⟩ := parts_val ht parts.toList (fun x hx => hfine x.2 (List.mem_toArray.2 (List.mem_map.2 ⟨x, hx, rfl⟩)))
  have e : parts.map (fun p => (p.1, a.eval p.2)) = ((parts.toList.map fun p => (p.1, evL tm p.2)).map fun p => (p.1, p.2.toV ρ)).toArray := by
    rw [← p1]; apply Array.ext'; simp
  refine wp_yields (s := Instr.build t ((parts.toList.map fun p => (p.1, evL tm p.2)).map fun p => (p.1, p.2.toV ρ)).toArray) h ?_ (sim_build p2 hv) hK
  rw [← e]
  rfl

theorem os_buildSlice {tm : Nat → LV} {dst : Option Tmp} (t : TypeId) (len : Nat) (parts : Array (Nat × Operand)) {type : TypeId} {pos : String} {after : Array Edge} {guard : Option (Nat × Bool)} {a : Act} {K : LV → LHeap → Prop} {Q : Exit → Act → World → Prop}
    (hfine : ∀ oo ∈ (Op.buildSlice t len parts).operands, fineO oo = true) (h : Rel W keep ρ g w) (ht : TRel ρ g.next tm a.tmps) (hK : opL P (Ok P) tm ⟨dst, .buildSlice t len parts, type, pos, after, guard⟩ g K) :
    Oper.wp P ⟨dst, .buildSlice t len parts, type, pos, after, guard⟩ a w (Next1 W keep ρ g a dst K) Q := by
  have hfine' : ∀ p ∈ parts.toList, fineO p.2 = true := fun p hp => hfine p.2 (by
    unfold Op.operands
    exact List.mem_toArray.2 (List.mem_map.2 ⟨p, hp, rfl⟩))
  clear hfine
  unfold opL at hK
  simp only at hK
  obtain ⟨v, g', hv, hK⟩ := oK_elim hK
  obtain ⟨p1, p2⟩ := parts_val ht parts.toList hfine'
  have e : parts.map (fun p => (p.1, a.eval p.2)) = ((parts.toList.map fun p => (p.1, evL tm p.2)).map fun p => (p.1, p.2.toV ρ)).toArray := by
    rw [← p1]; apply Array.ext'; simp
  have hm := sim_buildSlice (P := P) h p2 hv
  rw [← e] at hm
  exact wp_makes rfl hm hK

theorem os_insert {tm : Nat → LV} {dst : Option Tmp} (t : TypeId) (m k x : Operand) {type : TypeId} {pos : String} {after : Array Edge} {guard : Option (Nat × Bool)} {a : Act} {K : LV → LHeap → Prop} {Q : Exit → Act → World → Prop}
    (hfine : ∀ oo ∈ (Op.insert t m k x).operands, fineO oo = true) (h : Rel W keep ρ g w) (ht : TRel ρ g.next tm a.tmps) (hK : opL P (Ok P) tm ⟨dst, .insert t m k x, type, pos, after, guard⟩ g K) :
    Oper.wp P ⟨dst, .insert t m k x, type, pos, after, guard⟩ a w (Next1 W keep ρ g a dst K) Q := by
  have ev : ∀ oo ∈ (Op.insert t m k x).operands, a.eval oo = (evL tm oo).toV ρ ∧ (evL tm oo).ok ρ g.next := fun x hx => ev_val ht x (hfine x hx)
  unfold opL at hK
  simp only [Op.operands] at ev hfine hK
  obtain ⟨g', hv, hK⟩ := gK_elim hK
  have hm := ev m (by simp); have hk := ev k (by simp); have hx := ev x (by simp)
  refine wp_turns (s := Instr.mapUpdate t ((evL tm m).toV ρ) ((evL tm k).toV ρ) ((evL tm x).toV ρ)) ?_ (sim_mapSet h hk.2 hx.2 hv) hK
  simp only [execOp, hm.1, hk.1, hx.1]

theorem os_load {tm : Nat → LV} {dst : Option Tmp} (t : TypeId) (x : Operand) {type : TypeId} {pos : String} {after : Array Edge} {guard : Option (Nat × Bool)} {a : Act} {K : LV → LHeap → Prop} {Q : Exit → Act → World → Prop}
    (hfine : ∀ oo ∈ (Op.load t x).operands, fineO oo = true) (h : Rel W keep ρ g w) (ht : TRel ρ g.next tm a.tmps) (hK : opL P (Ok P) tm ⟨dst, .load t x, type, pos, after, guard⟩ g K) :
    Oper.wp P ⟨dst, .load t x, type, pos, after, guard⟩ a w (Next1 W keep ρ g a dst K) Q := by
  have ev : ∀ oo ∈ (Op.load t x).operands, a.eval oo = (evL tm oo).toV ρ ∧ (evL tm oo).ok ρ g.next := fun x hx => ev_val ht x (hfine x hx)
  unfold opL at hK
  simp only [Op.operands] at ev hfine hK
  obtain ⟨v, hv, hK⟩ := vK_elim hK
  have hx := ev x (by simp)
  refine wp_yields (s := Instr.loadAt t ((evL tm x).toV ρ)) h ?_ (sim_load h hv) hK
  simp only [execOp, hx.1]

theorem os_store {tm : Nat → LV} {dst : Option Tmp} (t : TypeId) (x y : Operand) {type : TypeId} {pos : String} {after : Array Edge} {guard : Option (Nat × Bool)} {a : Act} {K : LV → LHeap → Prop} {Q : Exit → Act → World → Prop}
    (hfine : ∀ oo ∈ (Op.store t x y).operands, fineO oo = true) (h : Rel W keep ρ g w) (ht : TRel ρ g.next tm a.tmps) (hK : opL P (Ok P) tm ⟨dst, .store t x y, type, pos, after, guard⟩ g K) :
    Oper.wp P ⟨dst, .store t x y, type, pos, after, guard⟩ a w (Next1 W keep ρ g a dst K) Q := by
  have ev : ∀ oo ∈ (Op.store t x y).operands, a.eval oo = (evL tm oo).toV ρ ∧ (evL tm oo).ok ρ g.next := fun x hx => ev_val ht x (hfine x hx)
  unfold opL at hK
  simp only [Op.operands] at ev hfine hK
  obtain ⟨g', hv, hK⟩ := gK_elim hK
  have hx := ev x (by simp); have hy := ev y (by simp)
  refine wp_turns (s := Instr.storeAt t ((evL tm x).toV ρ) ((evL tm y).toV ρ)) ?_ (sim_store h hv hy.2) hK
  simp only [execOp, hx.1, hy.1]

theorem os_nilCheck {tm : Nat → LV} {dst : Option Tmp} (x : Operand) {type : TypeId} {pos : String} {after : Array Edge} {guard : Option (Nat × Bool)} {a : Act} {K : LV → LHeap → Prop} {Q : Exit → Act → World → Prop}
    (hfine : ∀ oo ∈ (Op.nilCheck x).operands, fineO oo = true) (h : Rel W keep ρ g w) (ht : TRel ρ g.next tm a.tmps) (hK : opL P (Ok P) tm ⟨dst, .nilCheck x, type, pos, after, guard⟩ g K) :
    Oper.wp P ⟨dst, .nilCheck x, type, pos, after, guard⟩ a w (Next1 W keep ρ g a dst K) Q := by
  have ev : ∀ oo ∈ (Op.nilCheck x).operands, a.eval oo = (evL tm oo).toV ρ ∧ (evL tm oo).ok ρ g.next := fun x hx => ev_val ht x (hfine x hx)
  unfold opL at hK
  simp only [Op.operands] at ev hfine hK
  obtain ⟨v, hv, hK⟩ := vK_elim hK
  have hx := ev x (by simp)
  refine wp_yields (s := pure ((evL tm x).toV ρ)) h ?_ ⟨?_, ?_⟩ hK
  · simp only [execOp, hx.1]
    unfold nilCheckL at hv
    split at hv
    · rename_i e; rw [e]; rfl
    · rename_i e; rw [e]; rfl
    · rename_i e; rw [e]; rfl
    · cases hv
  · rw [run_pure, (nilCheck_spec hv).1]
  · rw [(nilCheck_spec hv).1]; exact hx.2

theorem os_binOp {tm : Nat → LV} {dst : Option Tmp} (op : BinOp) (t : TypeId) (x y : Operand) (yt : TypeId) {type : TypeId} {pos : String} {after : Array Edge} {guard : Option (Nat × Bool)} {a : Act} {K : LV → LHeap → Prop} {Q : Exit → Act → World → Prop}
    (hfine : ∀ oo ∈ (Op.binOp op t x y yt).operands, fineO oo = true) (h : Rel W keep ρ g w) (ht : TRel ρ g.next tm a.tmps) (hK : opL P (Ok P) tm ⟨dst, .binOp op t x y yt, type, pos, after, guard⟩ g K) :
    Oper.wp P ⟨dst, .binOp op t x y yt, type, pos, after, guard⟩ a w (Next1 W keep ρ g a dst K) Q := by
  have ev : ∀ oo ∈ (Op.binOp op t x y yt).operands, a.eval oo = (evL tm oo).toV ρ ∧ (evL tm oo).ok ρ g.next := fun x hx => ev_val ht x (hfine x hx)
  unfold opL at hK
  simp only [Op.operands] at ev hfine hK
  obtain ⟨v, hv, hK⟩ := vK_elim hK
  have hx := ev x (by simp); have hy := ev y (by simp)
  refine wp_yields (s := do eqGuard op t x y ((evL tm x).toV ρ) ((evL tm y).toV ρ); binOp op t ((evL tm x).toV ρ) ((evL tm y).toV ρ)) h ?_ (sim_bin hv) hK
  simp only [execOp, hx.1, hy.1]

theorem os_unOp {tm : Nat → LV} {dst : Option Tmp} (op : UnOp) (t : TypeId) (x : Operand) {type : TypeId} {pos : String} {after : Array Edge} {guard : Option (Nat × Bool)} {a : Act} {K : LV → LHeap → Prop} {Q : Exit → Act → World → Prop}
    (hfine : ∀ oo ∈ (Op.unOp op t x).operands, fineO oo = true) (h : Rel W keep ρ g w) (ht : TRel ρ g.next tm a.tmps) (hK : opL P (Ok P) tm ⟨dst, .unOp op t x, type, pos, after, guard⟩ g K) :
    Oper.wp P ⟨dst, .unOp op t x, type, pos, after, guard⟩ a w (Next1 W keep ρ g a dst K) Q := by
  have ev : ∀ oo ∈ (Op.unOp op t x).operands, a.eval oo = (evL tm oo).toV ρ ∧ (evL tm oo).ok ρ g.next := fun x hx => ev_val ht x (hfine x hx)
  unfold opL at hK
  simp only [Op.operands] at ev hfine hK
  obtain ⟨v, hv, hK⟩ := vK_elim hK
  have hx := ev x (by simp)
  refine wp_yields (s := Op.unary op ((evL tm x).toV ρ)) h ?_ (sim_un hv _ _ _) hK
  simp only [execOp, hx.1]

theorem os_convert {tm : Nat → LV} {dst : Option Tmp} (s d : TypeId) (x : Operand) {type : TypeId} {pos : String} {after : Array Edge} {guard : Option (Nat × Bool)} {a : Act} {K : LV → LHeap → Prop} {Q : Exit → Act → World → Prop}
    (hfine : ∀ oo ∈ (Op.convert s d x).operands, fineO oo = true) (h : Rel W keep ρ g w) (ht : TRel ρ g.next tm a.tmps) (hK : opL P (Ok P) tm ⟨dst, .convert s d x, type, pos, after, guard⟩ g K) :
    Oper.wp P ⟨dst, .convert s d x, type, pos, after, guard⟩ a w (Next1 W keep ρ g a dst K) Q := by
  have ev : ∀ oo ∈ (Op.convert s d x).operands, a.eval oo = (evL tm oo).toV ρ ∧ (evL tm oo).ok ρ g.next := fun x hx => ev_val ht x (hfine x hx)
  unfold opL at hK
  simp only [Op.operands] at ev hfine hK
  obtain ⟨v, g', hv, hK⟩ := oK_elim hK
  have hx := ev x (by simp)
  refine wp_makes (s := convert s d ((evL tm x).toV ρ)) ?_ (sim_conv h (ev x (by simp)).2 hv) hK
  simp only [execOp, hx.1]

theorem os_makeInterface {tm : Nat → LV} {dst : Option Tmp} (t : TypeId) (x : Operand) {type : TypeId} {pos : String} {after : Array Edge} {guard : Option (Nat × Bool)} {a : Act} {K : LV → LHeap → Prop} {Q : Exit → Act → World → Prop}
    (hfine : ∀ oo ∈ (Op.makeInterface t x).operands, fineO oo = true) (h : Rel W keep ρ g w) (ht : TRel ρ g.next tm a.tmps) (hK : opL P (Ok P) tm ⟨dst, .makeInterface t x, type, pos, after, guard⟩ g K) :
    Oper.wp P ⟨dst, .makeInterface t x, type, pos, after, guard⟩ a w (Next1 W keep ρ g a dst K) Q := by
  have ev : ∀ oo ∈ (Op.makeInterface t x).operands, a.eval oo = (evL tm oo).toV ρ ∧ (evL tm oo).ok ρ g.next := fun x hx => ev_val ht x (hfine x hx)
  unfold opL at hK
  simp only [Op.operands] at ev hfine hK
  obtain ⟨v, hv, hK⟩ := vK_elim hK
  have hx := ev x (by simp)
  refine wp_yields (s := Instr.makeInterface t ((evL tm x).toV ρ)) h ?_ (sim_iface hx.2 hv) hK
  simp only [execOp, hx.1]

theorem os_makeFunc {tm : Nat → LV} {dst : Option Tmp} (fn : Fn) (first caps : Array Operand) {type : TypeId} {pos : String} {after : Array Edge} {guard : Option (Nat × Bool)} {a : Act} {K : LV → LHeap → Prop} {Q : Exit → Act → World → Prop}
    (hfine : ∀ oo ∈ (Op.makeFunc fn first caps).operands, fineO oo = true) (h : Rel W keep ρ g w) (ht : TRel ρ g.next tm a.tmps) (hK : opL P (Ok P) tm ⟨dst, .makeFunc fn first caps, type, pos, after, guard⟩ g K) :
    Oper.wp P ⟨dst, .makeFunc fn first caps, type, pos, after, guard⟩ a w (Next1 W keep ρ g a dst K) Q := by
  have ev : ∀ oo ∈ (Op.makeFunc fn first caps).operands, a.eval oo = (evL tm oo).toV ρ ∧ (evL tm oo).ok ρ g.next := fun x hx => ev_val ht x (hfine x hx)
  unfold opL at hK
  simp only [Op.operands] at ev hfine hK
  obtain ⟨f1, f2⟩ := evs_val ht first.toList (fun x hx => hfine x (by simp; exact .inl (by simpa using hx)))
  obtain ⟨c1, c2⟩ := evs_val ht caps.toList (fun x hx => hfine x (by simp; exact .inr (by simpa using hx)))
  refine wp_yields (s := Instr.makeFunc fn (first.map a.eval) (caps.map a.eval)) h rfl ⟨?_, ?_⟩ hK
  · simp only [Instr.makeFunc, run_pure, LV.toV, ← f1, ← c1]
    congr 2 <;> apply Array.ext' <;> simp
  · simp only [LV.ok]; exact ⟨f2, c2⟩

theorem os_makeMap {tm : Nat → LV} {dst : Option Tmp} (t : TypeId) (r : Option Operand) {type : TypeId} {pos : String} {after : Array Edge} {guard : Option (Nat × Bool)} {a : Act} {K : LV → LHeap → Prop} {Q : Exit → Act → World → Prop}
    (hfine : ∀ oo ∈ (Op.makeMap t r).operands, fineO oo = true) (h : Rel W keep ρ g w) (ht : TRel ρ g.next tm a.tmps) (hK : opL P (Ok P) tm ⟨dst, .makeMap t r, type, pos, after, guard⟩ g K) :
    Oper.wp P ⟨dst, .makeMap t r, type, pos, after, guard⟩ a w (Next1 W keep ρ g a dst K) Q := by
  have ev : ∀ oo ∈ (Op.makeMap t r).operands, a.eval oo = (evL tm oo).toV ρ ∧ (evL tm oo).ok ρ g.next := fun x hx => ev_val ht x (hfine x hx)
  unfold opL at hK
  simp only [Op.operands] at ev hfine hK
  cases r with
  | some r => exact hK.elim
  | none =>
    refine wp_makes (v := .map g.next) (s := Instr.makeMap t none) rfl ⟨ρ.put g.next w.heap.size 0 0, { w with heap := w.heap.push (.map #[] 0) }, ?_, Ren.put_ext _ _ _ _ _, ?_, ?_, ?_⟩ hK
    · simp [Instr.makeMap, newObj, Sem.run, LV.toV]
    · exact h.new ⟨by simp, by simp⟩
    · simp [LV.ok]
    · simp

theorem os_makeSlice {tm : Nat → LV} {dst : Option Tmp} (t : TypeId) (l c : Operand) {type : TypeId} {pos : String} {after : Array Edge} {guard : Option (Nat × Bool)} {a : Act} {K : LV → LHeap → Prop} {Q : Exit → Act → World → Prop}
    (hfine : ∀ oo ∈ (Op.makeSlice t l c).operands, fineO oo = true) (h : Rel W keep ρ g w) (ht : TRel ρ g.next tm a.tmps) (hK : opL P (Ok P) tm ⟨dst, .makeSlice t l c, type, pos, after, guard⟩ g K) :
    Oper.wp P ⟨dst, .makeSlice t l c, type, pos, after, guard⟩ a w (Next1 W keep ρ g a dst K) Q := by
  have ev : ∀ oo ∈ (Op.makeSlice t l c).operands, a.eval oo = (evL tm oo).toV ρ ∧ (evL tm oo).ok ρ g.next := fun x hx => ev_val ht x (hfine x hx)
  unfold opL at hK
  simp only [Op.operands] at ev hfine hK
  obtain ⟨v, g', hv, hK⟩ := oK_elim hK
  have hx := ev l (by simp); have hy := ev c (by simp)
  refine wp_makes (s := Instr.makeSlice t ((evL tm l).toV ρ) ((evL tm c).toV ρ)) ?_ (sim_makeSlice h hv) hK
  simp only [execOp, hx.1, hy.1]

theorem os_slice {tm : Nat → LV} {dst : Option Tmp} (t : TypeId) (x : Operand) (lo hi mx : Option Operand) {type : TypeId} {pos : String} {after : Array Edge} {guard : Option (Nat × Bool)} {a : Act} {K : LV → LHeap → Prop} {Q : Exit → Act → World → Prop}
    (hfine : ∀ oo ∈ (Op.slice t x lo hi mx).operands, fineO oo = true) (h : Rel W keep ρ g w) (ht : TRel ρ g.next tm a.tmps) (hK : opL P (Ok P) tm ⟨dst, .slice t x lo hi mx, type, pos, after, guard⟩ g K) :
    Oper.wp P ⟨dst, .slice t x lo hi mx, type, pos, after, guard⟩ a w (Next1 W keep ρ g a dst K) Q := by
  have ev : ∀ oo ∈ (Op.slice t x lo hi mx).operands, a.eval oo = (evL tm oo).toV ρ ∧ (evL tm oo).ok ρ g.next := fun x hx => ev_val ht x (hfine x hx)
  unfold opL at hK
  simp only [Op.operands] at ev hfine hK
  obtain ⟨v, hv, hK⟩ := vK_elim hK
  have hx := ev x (by simp)
  have hop : ∀ (y : Option Operand), (∀ z, y = some z → z ∈ (#[x] ++ lo.toArray ++ hi.toArray ++ mx.toArray : Array Operand)) → y.map a.eval = (y.map (evL tm)).map (LV.toV ρ) := by
    intro y hy
    cases y with
    | none => rfl
    | some z => simp only [Option.map_some, (ev z (hy z rfl)).1]
  refine wp_yields (s := Instr.sliceAt t ((evL tm x).toV ρ) ((lo.map (evL tm)).map (LV.toV ρ)) ((hi.map (evL tm)).map (LV.toV ρ)) ((mx.map (evL tm)).map (LV.toV ρ))) h ?_ (sim_cut hx.2 (limL_ok h hx.2) hv) hK
  simp only [execOp, hx.1]
  rw [hop lo (fun z hz => by subst hz; simp), hop hi (fun z hz => by subst hz; simp), hop mx (fun z hz => by subst hz; simp)]

theorem os_fieldAddr {tm : Nat → LV} {dst : Option Tmp} (t : TypeId) (x : Operand) (f : Nat) {type : TypeId} {pos : String} {after : Array Edge} {guard : Option (Nat × Bool)} {a : Act} {K : LV → LHeap → Prop} {Q : Exit → Act → World → Prop}
    (hfine : ∀ oo ∈ (Op.fieldAddr t x f).operands, fineO oo = true) (h : Rel W keep ρ g w) (ht : TRel ρ g.next tm a.tmps) (hK : opL P (Ok P) tm ⟨dst, .fieldAddr t x f, type, pos, after, guard⟩ g K) :
    Oper.wp P ⟨dst, .fieldAddr t x f, type, pos, after, guard⟩ a w (Next1 W keep ρ g a dst K) Q := by
  have ev : ∀ oo ∈ (Op.fieldAddr t x f).operands, a.eval oo = (evL tm oo).toV ρ ∧ (evL tm oo).ok ρ g.next := fun x hx => ev_val ht x (hfine x hx)
  unfold opL at hK
  simp only [Op.operands] at ev hfine hK
  obtain ⟨v, hv, hK⟩ := vK_elim hK
  have hx := ev x (by simp)
  refine wp_yields (s := Instr.fieldAt t ((evL tm x).toV ρ) f) h ?_ (sim_fieldAddr hx.2 hv) hK
  simp only [execOp, hx.1]

theorem os_field {tm : Nat → LV} {dst : Option Tmp} (t : TypeId) (x : Operand) (f : Nat) {type : TypeId} {pos : String} {after : Array Edge} {guard : Option (Nat × Bool)} {a : Act} {K : LV → LHeap → Prop} {Q : Exit → Act → World → Prop}
    (hfine : ∀ oo ∈ (Op.field t x f).operands, fineO oo = true) (h : Rel W keep ρ g w) (ht : TRel ρ g.next tm a.tmps) (hK : opL P (Ok P) tm ⟨dst, .field t x f, type, pos, after, guard⟩ g K) :
    Oper.wp P ⟨dst, .field t x f, type, pos, after, guard⟩ a w (Next1 W keep ρ g a dst K) Q := by
  have ev : ∀ oo ∈ (Op.field t x f).operands, a.eval oo = (evL tm oo).toV ρ ∧ (evL tm oo).ok ρ g.next := fun x hx => ev_val ht x (hfine x hx)
  unfold opL at hK
  simp only [Op.operands] at ev hfine hK
  obtain ⟨v, hv, hK⟩ := vK_elim hK
  have hx := ev x (by simp)
  refine wp_yields (s := Instr.field t ((evL tm x).toV ρ) f) h ?_ (sim_field hx.2 hv) hK
  simp only [execOp, hx.1]

theorem os_indexAddr {tm : Nat → LV} {dst : Option Tmp} (t : TypeId) (x ix : Operand) {type : TypeId} {pos : String} {after : Array Edge} {guard : Option (Nat × Bool)} {a : Act} {K : LV → LHeap → Prop} {Q : Exit → Act → World → Prop}
    (hfine : ∀ oo ∈ (Op.indexAddr t x ix).operands, fineO oo = true) (h : Rel W keep ρ g w) (ht : TRel ρ g.next tm a.tmps) (hK : opL P (Ok P) tm ⟨dst, .indexAddr t x ix, type, pos, after, guard⟩ g K) :
    Oper.wp P ⟨dst, .indexAddr t x ix, type, pos, after, guard⟩ a w (Next1 W keep ρ g a dst K) Q := by
  have ev : ∀ oo ∈ (Op.indexAddr t x ix).operands, a.eval oo = (evL tm oo).toV ρ ∧ (evL tm oo).ok ρ g.next := fun x hx => ev_val ht x (hfine x hx)
  unfold opL at hK
  simp only [Op.operands] at ev hfine hK
  obtain ⟨v, hv, hK⟩ := vK_elim hK
  have hx := ev x (by simp); have hy := ev ix (by simp)
  refine wp_yields (s := Instr.indexAt t ((evL tm x).toV ρ) ((evL tm ix).toV ρ)) h ?_ (sim_indexAddr hx.2 hv) hK
  simp only [execOp, hx.1, hy.1]

theorem os_index {tm : Nat → LV} {dst : Option Tmp} (t : TypeId) (x ix : Operand) {type : TypeId} {pos : String} {after : Array Edge} {guard : Option (Nat × Bool)} {a : Act} {K : LV → LHeap → Prop} {Q : Exit → Act → World → Prop}
    (hfine : ∀ oo ∈ (Op.index t x ix).operands, fineO oo = true) (h : Rel W keep ρ g w) (ht : TRel ρ g.next tm a.tmps) (hK : opL P (Ok P) tm ⟨dst, .index t x ix, type, pos, after, guard⟩ g K) :
    Oper.wp P ⟨dst, .index t x ix, type, pos, after, guard⟩ a w (Next1 W keep ρ g a dst K) Q := by
  have ev : ∀ oo ∈ (Op.index t x ix).operands, a.eval oo = (evL tm oo).toV ρ ∧ (evL tm oo).ok ρ g.next := fun x hx => ev_val ht x (hfine x hx)
  unfold opL at hK
  simp only [Op.operands] at ev hfine hK
  obtain ⟨v, hv, hK⟩ := vK_elim hK
  have hx := ev x (by simp); have hy := ev ix (by simp)
  refine wp_yields (s := Instr.index t ((evL tm x).toV ρ) ((evL tm ix).toV ρ)) h ?_ (sim_index hx.2 hv) hK
  simp only [execOp, hx.1, hy.1]

theorem os_lookup {tm : Nat → LV} {dst : Option Tmp} (t : TypeId) (x k : Operand) (ok : Bool) {type : TypeId} {pos : String} {after : Array Edge} {guard : Option (Nat × Bool)} {a : Act} {K : LV → LHeap → Prop} {Q : Exit → Act → World → Prop}
    (hfine : ∀ oo ∈ (Op.lookup t x k ok).operands, fineO oo = true) (h : Rel W keep ρ g w) (ht : TRel ρ g.next tm a.tmps) (hK : opL P (Ok P) tm ⟨dst, .lookup t x k ok, type, pos, after, guard⟩ g K) :
    Oper.wp P ⟨dst, .lookup t x k ok, type, pos, after, guard⟩ a w (Next1 W keep ρ g a dst K) Q := by
  have ev : ∀ oo ∈ (Op.lookup t x k ok).operands, a.eval oo = (evL tm oo).toV ρ ∧ (evL tm oo).ok ρ g.next := fun x hx => ev_val ht x (hfine x hx)
  unfold opL at hK
  simp only [Op.operands] at ev hfine hK
  obtain ⟨v, hv, hK⟩ := vK_elim hK
  have hx := ev x (by simp); have hy := ev k (by simp)
  refine wp_yields (s := Instr.lookup t ((evL tm x).toV ρ) ((evL tm k).toV ρ) ok) h ?_ (sim_lookup h hv) hK
  simp only [execOp, hx.1, hy.1]

theorem os_mapUpdate {tm : Nat → LV} {dst : Option Tmp} (t : TypeId) (m k x : Operand) {type : TypeId} {pos : String} {after : Array Edge} {guard : Option (Nat × Bool)} {a : Act} {K : LV → LHeap → Prop} {Q : Exit → Act → World → Prop}
    (hfine : ∀ oo ∈ (Op.mapUpdate t m k x).operands, fineO oo = true) (h : Rel W keep ρ g w) (ht : TRel ρ g.next tm a.tmps) (hK : opL P (Ok P) tm ⟨dst, .mapUpdate t m k x, type, pos, after, guard⟩ g K) :
    Oper.wp P ⟨dst, .mapUpdate t m k x, type, pos, after, guard⟩ a w (Next1 W keep ρ g a dst K) Q := by
  have ev : ∀ oo ∈ (Op.mapUpdate t m k x).operands, a.eval oo = (evL tm oo).toV ρ ∧ (evL tm oo).ok ρ g.next := fun x hx => ev_val ht x (hfine x hx)
  unfold opL at hK
  simp only [Op.operands] at ev hfine hK
  obtain ⟨g', hv, hK⟩ := gK_elim hK
  have hm := ev m (by simp); have hk := ev k (by simp); have hx := ev x (by simp)
  refine wp_turns (s := Instr.mapUpdate t ((evL tm m).toV ρ) ((evL tm k).toV ρ) ((evL tm x).toV ρ)) ?_ (sim_mapSet h hk.2 hx.2 hv) hK
  simp only [execOp, hm.1, hk.1, hx.1]

theorem os_mapEntry {tm : Nat → LV} {dst : Option Tmp} (t : TypeId) (m k : Operand) {type : TypeId} {pos : String} {after : Array Edge} {guard : Option (Nat × Bool)} {a : Act} {K : LV → LHeap → Prop} {Q : Exit → Act → World → Prop}
    (hfine : ∀ oo ∈ (Op.mapEntry t m k).operands, fineO oo = true) (h : Rel W keep ρ g w) (ht : TRel ρ g.next tm a.tmps) (hK : opL P (Ok P) tm ⟨dst, .mapEntry t m k, type, pos, after, guard⟩ g K) :
    Oper.wp P ⟨dst, .mapEntry t m k, type, pos, after, guard⟩ a w (Next1 W keep ρ g a dst K) Q := by
  have ev : ∀ oo ∈ (Op.mapEntry t m k).operands, a.eval oo = (evL tm oo).toV ρ ∧ (evL tm oo).ok ρ g.next := fun x hx => ev_val ht x (hfine x hx)
  unfold opL at hK
  simp only [Op.operands] at ev hfine hK
  obtain ⟨v, g', hv, hK⟩ := oK_elim hK
  have hm := ev m (by simp); have hk := ev k (by simp)
  refine wp_makes (s := Instr.mapEntry t ((evL tm m).toV ρ) ((evL tm k).toV ρ)) ?_ (sim_mapEntry h hk.2 hv) hK
  simp only [execOp, hm.1, hk.1]

theorem os_entryStore {tm : Nat → LV} {dst : Option Tmp} (t : TypeId) (m s x : Operand) {type : TypeId} {pos : String} {after : Array Edge} {guard : Option (Nat × Bool)} {a : Act} {K : LV → LHeap → Prop} {Q : Exit → Act → World → Prop}
    (hfine : ∀ oo ∈ (Op.entryStore t m s x).operands, fineO oo = true) (h : Rel W keep ρ g w) (ht : TRel ρ g.next tm a.tmps) (hK : opL P (Ok P) tm ⟨dst, .entryStore t m s x, type, pos, after, guard⟩ g K) :
    Oper.wp P ⟨dst, .entryStore t m s x, type, pos, after, guard⟩ a w (Next1 W keep ρ g a dst K) Q := by
  have ev : ∀ oo ∈ (Op.entryStore t m s x).operands, a.eval oo = (evL tm oo).toV ρ ∧ (evL tm oo).ok ρ g.next := fun x hx => ev_val ht x (hfine x hx)
  unfold opL at hK
  simp only [Op.operands] at ev hfine hK
  obtain ⟨g', hv, hK⟩ := gK_elim hK
  have hm := ev m (by simp); have hs := ev s (by simp); have hx := ev x (by simp)
  refine wp_turns (s := Instr.entryStore t ((evL tm m).toV ρ) ((evL tm s).toV ρ) ((evL tm x).toV ρ)) ?_ (sim_entryStore h hx.2 hv) hK
  simp only [execOp, hm.1, hs.1, hx.1]

theorem os_range {tm : Nat → LV} {dst : Option Tmp} (t : TypeId) (x : Operand) {type : TypeId} {pos : String} {after : Array Edge} {guard : Option (Nat × Bool)} {a : Act} {K : LV → LHeap → Prop} {Q : Exit → Act → World → Prop}
    (hfine : ∀ oo ∈ (Op.range t x).operands, fineO oo = true) (h : Rel W keep ρ g w) (ht : TRel ρ g.next tm a.tmps) (hK : opL P (Ok P) tm ⟨dst, .range t x, type, pos, after, guard⟩ g K) :
    Oper.wp P ⟨dst, .range t x, type, pos, after, guard⟩ a w (Next1 W keep ρ g a dst K) Q := by
  have ev : ∀ oo ∈ (Op.range t x).operands, a.eval oo = (evL tm oo).toV ρ ∧ (evL tm oo).ok ρ g.next := fun x hx => ev_val ht x (hfine x hx)
  unfold opL at hK
  simp only [Op.operands] at ev hfine hK
  obtain ⟨v, g', hv, hK⟩ := oK_elim hK
  have hx := ev x (by simp)
  refine wp_makes (s := Instr.range t ((evL tm x).toV ρ)) ?_ (sim_range h hv) hK
  simp only [execOp, hx.1]

theorem os_next {tm : Nat → LV} {dst : Option Tmp} (it : Operand) (isS : Bool) {type : TypeId} {pos : String} {after : Array Edge} {guard : Option (Nat × Bool)} {a : Act} {K : LV → LHeap → Prop} {Q : Exit → Act → World → Prop}
    (hfine : ∀ oo ∈ (Op.next it isS).operands, fineO oo = true) (h : Rel W keep ρ g w) (ht : TRel ρ g.next tm a.tmps) (hK : opL P (Ok P) tm ⟨dst, .next it isS, type, pos, after, guard⟩ g K) :
    Oper.wp P ⟨dst, .next it isS, type, pos, after, guard⟩ a w (Next1 W keep ρ g a dst K) Q := by
  have ev : ∀ oo ∈ (Op.next it isS).operands, a.eval oo = (evL tm oo).toV ρ ∧ (evL tm oo).ok ρ g.next := fun x hx => ev_val ht x (hfine x hx)
  unfold opL at hK
  simp only [Op.operands] at ev hfine hK
  have hx := ev it (by simp)
  cases isS with
  | true =>
    obtain ⟨v, g', hv, hK⟩ := oK_elim hK
    refine wp_makes (s := Instr.next ((evL tm it).toV ρ) true type) ?_ (sim_nextStr h hv) hK
    simp only [execOp, hx.1]
  | false =>
    obtain ⟨v, g', ρ', w', r1, r2, r3⟩ := sim_nextMap (P := P) (ty := type) h hK
    unfold Oper.wp
    have : execOp a.eval ⟨dst, .next it false, type, pos, after, guard⟩ = (do pure (.value (← Instr.next ((evL tm it).toV ρ) false type)) : Sem Next) := by simp only [execOp, hx.1]
    rw [this, run_bind_ok r1, run_pure, Oper.upon_value]
    exact ⟨v, g', ρ', r2, rfl, r3⟩

theorem os_entry {tm : Nat → LV} {dst : Option Tmp} (it : Operand) {type : TypeId} {pos : String} {after : Array Edge} {guard : Option (Nat × Bool)} {a : Act} {K : LV → LHeap → Prop} {Q : Exit → Act → World → Prop}
    (hfine : ∀ oo ∈ (Op.entry it).operands, fineO oo = true) (h : Rel W keep ρ g w) (ht : TRel ρ g.next tm a.tmps) (hK : opL P (Ok P) tm ⟨dst, .entry it, type, pos, after, guard⟩ g K) :
    Oper.wp P ⟨dst, .entry it, type, pos, after, guard⟩ a w (Next1 W keep ρ g a dst K) Q := by
  have ev : ∀ oo ∈ (Op.entry it).operands, a.eval oo = (evL tm oo).toV ρ ∧ (evL tm oo).ok ρ g.next := fun x hx => ev_val ht x (hfine x hx)
  unfold opL at hK
  simp only [Op.operands] at ev hfine hK
  obtain ⟨v, hv, hK⟩ := vK_elim hK
  have hx := ev it (by simp)
  refine wp_yields (s := Instr.entry ((evL tm it).toV ρ)) h ?_ (sim_entry h hv) hK
  simp only [execOp, hx.1]

theorem os_typeAssert {tm : Nat → LV} {dst : Option Tmp} (x : Operand) (xt t : TypeId) (ok : Bool) {type : TypeId} {pos : String} {after : Array Edge} {guard : Option (Nat × Bool)} {a : Act} {K : LV → LHeap → Prop} {Q : Exit → Act → World → Prop}
    (hfine : ∀ oo ∈ (Op.typeAssert x xt t ok).operands, fineO oo = true) (h : Rel W keep ρ g w) (ht : TRel ρ g.next tm a.tmps) (hK : opL P (Ok P) tm ⟨dst, .typeAssert x xt t ok, type, pos, after, guard⟩ g K) :
    Oper.wp P ⟨dst, .typeAssert x xt t ok, type, pos, after, guard⟩ a w (Next1 W keep ρ g a dst K) Q := by
  have ev : ∀ oo ∈ (Op.typeAssert x xt t ok).operands, a.eval oo = (evL tm oo).toV ρ ∧ (evL tm oo).ok ρ g.next := fun x hx => ev_val ht x (hfine x hx)
  unfold opL at hK
  simp only [Op.operands] at ev hfine hK
  obtain ⟨v, hv, hK⟩ := vK_elim hK
  have hx := ev x (by simp)
  refine wp_yields (s := Instr.typeAssert ((evL tm x).toV ρ) xt t ok) h ?_ (sim_assert hx.2 hv) hK
  simp only [execOp, hx.1]

theorem os_extract {tm : Nat → LV} {dst : Option Tmp} (x : Operand) (i : Nat) {type : TypeId} {pos : String} {after : Array Edge} {guard : Option (Nat × Bool)} {a : Act} {K : LV → LHeap → Prop} {Q : Exit → Act → World → Prop}
    (hfine : ∀ oo ∈ (Op.extract x i).operands, fineO oo = true) (h : Rel W keep ρ g w) (ht : TRel ρ g.next tm a.tmps) (hK : opL P (Ok P) tm ⟨dst, .extract x i, type, pos, after, guard⟩ g K) :
    Oper.wp P ⟨dst, .extract x i, type, pos, after, guard⟩ a w (Next1 W keep ρ g a dst K) Q := by
  have ev : ∀ oo ∈ (Op.extract x i).operands, a.eval oo = (evL tm oo).toV ρ ∧ (evL tm oo).ok ρ g.next := fun x hx => ev_val ht x (hfine x hx)
  unfold opL at hK
  simp only [Op.operands] at ev hfine hK
  obtain ⟨v, hv, hK⟩ := vK_elim hK
  have hx := ev x (by simp)
  refine wp_yields (s := Instr.extract ((evL tm x).toV ρ) i) h ?_ (sim_extract hx.2 hv) hK
  simp only [execOp, hx.1]

theorem idxB_spec (c : UInt8) : ∀ (l : List UInt8) (n : Nat), idxB c l n = if Lib.indexByte l c = -1 then -1 else Lib.indexByte l c + n
  | [], n => by simp [idxB, Lib.indexByte]
  | b :: l, n => by
    unfold idxB Lib.indexByte
    by_cases hb : (b == c) = true
    · rw [if_pos hb, if_pos hb]; simp
    · rw [if_neg hb, if_neg hb, idxB_spec c l (n + 1)]
      have hge := Lib.indexByte_ge l c
      by_cases h1 : Lib.indexByte l c = -1
      · simp [h1]
      · have h2 : (Lib.indexByte l c == -1) = false := by simpa using h1
        rw [if_neg h1, h2]
        simp only [Bool.false_eq_true, if_false]
        rw [if_neg (by omega)]
        omega
theorem ext_at {fn : Func} {e : Array Value → Sem Value} {name : String} (hn : fn.name = name) (ho : fn.origin = "") (h1 : (Extern.allGenericRows.lookup name).isNone = true) (h2 : (Extern.allTypedRows.lookup name).isNone = true) (h3 : Extern.allRows.lookup name = some e)
    (h4 : (Extern.allNextRows.lookup name).isNone = true) (h5 : (Extern.allNextRows.lookup "").isNone = true) : Extern.findNext fn = none ∧ Extern.find fn = some e := by
  rw [Option.isNone_iff_eq_none] at h1 h2 h4 h5
  constructor
  · simp only [Extern.findNext, hn, ho, h4, h5]; rfl
  · simp only [Extern.find, hn, ho, h1, h2, h3]; rfl
set_option maxRecDepth 100000 in
theorem ext_spec {f : FuncId} {args : List LV} {v : LV} (h : extL P f args = some v) : (callFunc f (toVs ρ args).toArray).run P w = .ok (.value (v.toV ρ)) w ∧ ∀ n, v.ok ρ n := by
  unfold extL at h
  split at h
  · rename_i fn hf
    split at h
    · cases h
    · rename_i hb
      split at h
      · rename_i ho
        split at h
        · rename_i s c
          split at h
          · rename_i hn
            cases h
            refine ⟨?_, fun n => by simp [LV.ok]⟩
            obtain ⟨e1, e2⟩ := ext_at (e := Extern.BytealgIndexByte.indexByte) hn ho (by kernel_rfl) (by kernel_rfl) (by kernel_rfl) (by kernel_rfl) (by kernel_rfl)
            rw [run_callFunc_extern hf (by rw [hn]; decide +kernel) (by rw [hb]; rfl) e1 e2]
            simp only [toVs, LV.toV]
            rw [Lib.run_indexByteString]
            simp only [Result.andThen, idxB_spec]
            by_cases h1 : Lib.indexByte s c.toNat.toUInt8 = -1 <;> simp [h1]
          · split at h
            · rename_i hn
              cases h
              refine ⟨?_, fun n => by simp [LV.ok]⟩
              obtain ⟨e1, e2⟩ := ext_at (e := Extern.BytealgCount.count) hn ho (by kernel_rfl) (by kernel_rfl) (by kernel_rfl) (by kernel_rfl) (by kernel_rfl)
              rw [run_callFunc_extern hf (by rw [hn]; decide +kernel) (by rw [hb]; rfl) e1 e2]
              simp only [toVs, LV.toV]
              rw [Lib.run_countString]
              rfl
            · cases h
        · cases h
      · cases h
  · cases h
theorem os_call {tm : Nat → LV} {dst : Option Tmp} (c : Call) {type : TypeId} {pos : String} {after : Array Edge} {guard : Option (Nat × Bool)} {a : Act} {K : LV → LHeap → Prop} {Q : Exit → Act → World → Prop}
    (hfine : ∀ oo ∈ (Op.call c).operands, fineO oo = true) (h : Rel W keep ρ g w) (ht : TRel ρ g.next tm a.tmps) (hK : opL P (Ok P) tm ⟨dst, .call c, type, pos, after, guard⟩ g K) :
    Oper.wp P ⟨dst, .call c, type, pos, after, guard⟩ a w (Next1 W keep ρ g a dst K) Q := by
  have ev : ∀ oo ∈ (Op.call c).operands, a.eval oo = (evL tm oo).toV ρ ∧ (evL tm oo).ok ρ g.next := fun x hx => ev_val ht x (hfine x hx)
  unfold opL at hK
  simp only [Op.operands] at ev hfine hK
  obtain ⟨callee, args, argTypes⟩ := c
  have hargs : ∀ x ∈ args.toList, fineO x = true := fun x hx => hfine x (by
    have : x ∈ args := by simpa using hx
    cases callee <;> simp [Call.operands, this])
  obtain ⟨a1, a2⟩ := evs_val ht args.toList hargs
  have a1' : args.map a.eval = (toVs ρ (args.toList.map (evL tm))).toArray := by rw [← a1]; apply Array.ext'; simp
  simp only at hK
  cases callee with
  | builtin b =>
    simp only at hK
    obtain ⟨v, g', hv, hK⟩ := oK_elim hK
    obtain ⟨ρ', w', r1, r2⟩ := sim_builtin (P := P) (ty := type) (cs := args.map fun | .const _ => true | _ => false) h a2 hv
    unfold Oper.wp
    have : (execOp a.eval ⟨dst, .call ⟨.builtin b, args, argTypes⟩, type, pos, after, guard⟩).run P w = .ok (.value (v.toV ρ')) w' := by
      simp only [execOp, resolve]
      rw [run_bind_ok (run_pure P _ w)]
      simp only [invoke]
      rw [a1']
      exact r1
    rw [this, Oper.upon_value]
    exact ⟨v, g', ρ', r2, rfl, hK⟩
  | value f =>
    simp only at hK
    have hx := ev f (by simp [Call.operands])
    unfold callV at hK
    split at hK
    · rename_i fid first caps e
      have hfo := hx.2
      rw [e] at hfo
      simp only [LV.ok] at hfo
      have hrun : (execOp a.eval ⟨dst, .call ⟨.value f, args, argTypes⟩, type, pos, after, guard⟩).run P w = (callFunc fid (toVs ρ (first ++ args.toList.map (evL tm) ++ caps)).toArray).run P w := by
        simp only [execOp, resolve, hx.1, e, LV.toV, Deferred.ofValue]
        rw [run_bind_ok (run_pure P _ w)]
        simp only [invoke]
        rw [a1', toVs_append, toVs_append]
        simp
      split at hK
      · rename_i v hext
        obtain ⟨r1, r2⟩ := ext_spec (ρ := ρ) (w := w) hext
        unfold Oper.wp
        rw [hrun, r1, Oper.upon_value]
        exact ⟨v, g, ρ, Post.same h (r2 _), rfl, hK⟩
      · exact wp_call h (oks_append.2 ⟨oks_append.2 ⟨hfo.1, a2⟩, hfo.2⟩) hK hrun
    · exact hK.elim
  | invoke r name =>
    simp only at hK
    have hx := ev r (by simp [Call.operands])
    split at hK
    · rename_i t v e
      split at hK
      · rename_i f hm
        have hvo := hx.2
        rw [e] at hvo
        simp only [LV.ok] at hvo
        refine wp_call (args := v :: args.toList.map (evL tm)) h ⟨hvo, a2⟩ hK ?_
        unfold methodL at hm
        split at hm
        · rename_i i el hi hd
          split at hm
          · rename_i m hfind
            split at hm
            · rename_i hpath
              split at hm
              · rename_i fid hmf
                cases hm
                simp only [execOp, resolve, hx.1, e, LV.toV]
                rw [run_bind_ok (run_pure P _ w)]
                simp only [invoke, a1']
                have hargs0 : (#[Value.iface t (v.toV ρ)] ++ (toVs ρ (args.toList.map (evL tm))).toArray)[0]? = some (.iface t (v.toV ρ)) := by simp
                have hext : (#[Value.iface t (v.toV ρ)] ++ (toVs ρ (args.toList.map (evL tm))).toArray).extract 1 (#[Value.iface t (v.toV ρ)] ++ (toVs ρ (args.toList.map (evL tm))).toArray).size = (toVs ρ (args.toList.map (evL tm))).toArray := by
                  apply Array.ext'; simp
                simp only [hargs0, hext, callMethod]
                rw [run_bind_ok (run_program P w)]
                have hmeth : (method (P.types.size + Made.depth) t (v.toV ρ) name).run P w = .ok (f, v.toV ρ) w := by
                  have hdep : 1 ≤ Made.depth := by decide
                  have hd' : ∃ k, P.types.size + Made.depth = k + 1 := ⟨P.types.size + Made.depth - 1, by omega⟩
                  obtain ⟨k, hk⟩ := hd'
                  rw [hk]
                  simp only [method]
                  rw [run_bind_ok (run_typeInfo hi w)]
                  simp only [hfind]
                  have hp0 : m.path.toList = [] := by simpa using hpath
                  rw [hp0]
                  simp only [follow]
                  rw [run_bind_ok (run_pure P _ w)]
                  simp only [hmf]
                  have hr : ∀ s : Option String, (receiverAt t (.val (v.toV ρ)) true s).run P w = .ok (v.toV ρ) w := by
                    intro s
                    simp only [receiverAt]
                    rw [run_bind_ok (run_underlying' hd w)]
                    rfl
                  rw [run_bind_ok (hr _)]
                  rfl
                rw [run_bind_ok hmeth]
                simp [toVs]
              · cases hm
            · cases hm
          · cases hm
        · cases hm
      · exact hK.elim
    · exact hK.elim

theorem op_sound {tm : Nat → LV} {o : Oper} {a : Act} {K : LV → LHeap → Prop} {Q : Exit → Act → World → Prop} (hf : fineOp o = true) (h : Rel W keep ρ g w) (ht : TRel ρ g.next tm a.tmps)
    (hK : opL P (Ok P) tm o g K) : o.wp P a w (Next1 W keep ρ g a o.dst K) Q := by
  have hfine : ∀ x ∈ o.op.operands, fineO x = true := fun x hx => Array.all_eq_true_iff_forall_mem.1 hf x hx
  obtain ⟨dst, op, type, pos, after, guard⟩ := o
  cases op with
  | move x => exact os_move _ hfine h ht hK
  | assign x => exact os_assign _ hfine h ht hK
  | pick c x y => exact os_pick _ _ _ hfine h ht hK
  | alloc t => exact os_alloc _ hfine h ht hK
  | box t x => exact os_box _ _ hfine h ht hK
  | build t parts => exact os_build _ _ hfine h ht hK
  | buildSlice t len parts => exact os_buildSlice _ _ _ hfine h ht hK
  | insert t m k x => exact os_insert _ _ _ _ hfine h ht hK
  | load t x => exact os_load _ _ hfine h ht hK
  | store t x y => exact os_store _ _ _ hfine h ht hK
  | nilCheck x => exact os_nilCheck _ hfine h ht hK
  | binOp op t x y yt => exact os_binOp _ _ _ _ _ hfine h ht hK
  | unOp op t x => exact os_unOp _ _ _ hfine h ht hK
  | convert s d x => exact os_convert _ _ _ hfine h ht hK
  | makeInterface t x => exact os_makeInterface _ _ hfine h ht hK
  | makeFunc fn first caps => exact os_makeFunc _ _ _ hfine h ht hK
  | makeMap t r => exact os_makeMap _ _ hfine h ht hK
  | makeSlice t l c => exact os_makeSlice _ _ _ hfine h ht hK
  | slice t x lo hi mx => exact os_slice _ _ _ _ _ hfine h ht hK
  | fieldAddr t x f => exact os_fieldAddr _ _ _ hfine h ht hK
  | field t x f => exact os_field _ _ _ hfine h ht hK
  | indexAddr t x ix => exact os_indexAddr _ _ _ hfine h ht hK
  | index t x ix => exact os_index _ _ _ hfine h ht hK
  | lookup t x k ok => exact os_lookup _ _ _ _ hfine h ht hK
  | mapUpdate t m k x => exact os_mapUpdate _ _ _ _ hfine h ht hK
  | mapEntry t m k => exact os_mapEntry _ _ _ hfine h ht hK
  | entryStore t m s x => exact os_entryStore _ _ _ _ hfine h ht hK
  | range t x => exact os_range _ _ hfine h ht hK
  | next it isS => exact os_next _ _ hfine h ht hK
  | entry it => exact os_entry _ hfine h ht hK
  | typeAssert x xt t ok => exact os_typeAssert _ _ _ _ hfine h ht hK
  | extract x i => exact os_extract _ _ hfine h ht hK
  | call c => exact os_call _ hfine h ht hK
  | _ => unfold opL at hK; exact hK.elim

end Go.Lm
