/-
  waitq's queue in the heap.
-/
import Derived.Test.YtgncgokjbakdmaaWa1
set_option linter.all false
namespace Go.Proofs.Ytgncgokjbakdmaa
open Go.ChangeShapes Go.WideShapes Go.ChangeAt Go.RowKit Go.Lm
set_option linter.unusedSimpArgs false
def chanK : Key Try.prog 23 Chan := ⟨fun c => .agg (chanE.f c), fun a b => ⟨_, chan_ty a b, by simp⟩, fun a => by
  obtain ⟨a, b, c⟩ := a
  show checkKeyL Try.prog 60 23 (.agg [i a, i b, i c]) = true
  kernel_rfl, fun a => by
  obtain ⟨a, b, c⟩ := a
  show sameL (.agg [i a, i b, i c]) (.agg [i a, i b, i c]) = true
  simp [sameL, sames, same1]⟩
def intK : Key Try.prog 3 Int := ⟨fun n => i n, fun a b => ⟨_, int_eq 59 a b, by simp⟩, fun a => by kernel_rfl, fun a => by simp [sameL, same1]⟩
theorem ty79 : Try.prog.underlying 79 = some (.map 23 24) := by kernel_rfl
theorem ty80 : Try.prog.underlying 80 = some (.map 3 30) := by kernel_rfl
theorem ty25 : Try.prog.underlying 25 = some (.pointer 82) := by kernel_rfl
theorem zr24 : zeroL Try.prog 24 = some .nils := by kernel_rfl
theorem zr30 : zeroL Try.prog 30 = some .nils := by kernel_rfl
inductive Tag where
  | q | ms | mo
  | s (c : Chan)
  | o (t : Int)
structure WQd (g : LHeap) (q : Nat) (col : Nat → Option Tag) (on : Int → Option (List Chan)) (sl : Chan → List Int) (n : Nat) (ms mo : Nat) (mpS : Chan → Option LV) (mpO : Int → Option LV) (nS : Nat) : Prop where
  at_ : g.get q = some (.cells [.map ms, .map mo] .ex)
  mapS : MapIs g ms chanK.k mpS nS
  mapO : MapIs g mo intK.k mpO n
  cq : col q = some .q
  cs : col ms = some .ms
  co : col mo = some .mo
  sls : ∀ c, (mpS c = none ∧ sl c = []) ∨ ∃ V a, mpS c = some V ∧ sl c ≠ [] ∧ V.obj = some a ∧ col a = some (.s c) ∧ Row g V intE (sl c) ∧ Grow g V 1 ∧ Mine g V
  ons : ∀ t, (mpO t = none ∧ on t = none) ∨ ∃ V l a, mpO t = some V ∧ on t = some l ∧ l ≠ [] ∧ V.obj = some a ∧ col a = some (.o t) ∧ Row g V chanE l ∧ Mine g V
  lt : ∀ a, col a ≠ none → a < g.next
  nod : ∀ c, (sl c).Nodup
  mem : ∀ c t, t ∈ sl c → ∃ l, on t = some l ∧ c ∈ l
  most : n ≤ 64
  short : ∀ t l, on t = some l → l.length ≤ 16
def WQ (g : LHeap) (q : Nat) (col : Nat → Option Tag) (on : Int → Option (List Chan)) (sl : Chan → List Int) (n : Nat) : Prop := ∃ ms mo mpS mpO nS, WQd g q col on sl n ms mo mpS mpO nS
/-- What is none of the queue's is as it was, and is none of it now. -/
structure FrQ (g : LHeap) (col : Nat → Option Tag) (g' : LHeap) (col' : Nat → Option Tag) : Prop where
  le : g.next ≤ g'.next
  eq : ∀ a, a < g.next → col a = none → g'.get a = g.get a ∧ col' a = none
theorem FrQ.trans {g g' g'' : LHeap} {col col' col'' : Nat → Option Tag} (h : FrQ g col g' col') (k : FrQ g' col' g'' col'') : FrQ g col g'' col'' :=
  ⟨Nat.le_trans h.le k.le, fun a ha hc => ⟨(k.eq a (Nat.lt_of_lt_of_le ha h.le) (h.eq a ha hc).2).1.trans (h.eq a ha hc).1, (k.eq a (Nat.lt_of_lt_of_le ha h.le) (h.eq a ha hc).2).2⟩⟩
theorem FrQ.of {g g' : LHeap} {col : Nat → Option Tag} (f : Fr noF g g') : FrQ g col g' col := ⟨f.le, fun a ha hc => ⟨f.eq a ha id, hc⟩⟩
variable {g g' : LHeap} {q n ms mo nS : Nat} {col : Nat → Option Tag} {on : Int → Option (List Chan)} {sl : Chan → List Int} {mpS : Chan → Option LV} {mpO : Int → Option LV}
theorem WQd.up (D : WQd g q col on sl n ms mo mpS mpO nS) {F : Nat → Prop} (f : Fr F g g') (hF : ∀ a, F a → col a = none) : WQd g' q col on sl n ms mo mpS mpO nS := by
  have keep : ∀ {a t}, col a = some t → g'.get a = g.get a := fun {a t} h => f.eq a (D.lt a (by rw [h]; simp)) fun hf => by rw [hF a hf] at h; cases h
  refine ⟨(keep D.cq).trans D.at_, D.mapS.fr (keep D.cs), D.mapO.fr (keep D.co), D.cq, D.cs, D.co, fun c => ?_, fun t => ?_, fun a ha => Nat.lt_of_lt_of_le (D.lt a ha) f.le, D.nod, D.mem, D.most, D.short⟩
  · rcases D.sls c with h | ⟨V, a, h1, h2, h3, h4, h5, h6, h7⟩
    · exact .inl h
    · have hk : ∀ b, V.obj = some b → g'.get b = g.get b := fun b hb => by rw [h3] at hb; cases hb; exact keep h4
      exact .inr ⟨V, a, h1, h2, h3, h4, h5.fr hk, h6.fr hk, h7.fr hk⟩
  · rcases D.ons t with h | ⟨V, l, a, h1, h2, h3, h4, h5, h6, h7⟩
    · exact .inl h
    · have hk : ∀ b, V.obj = some b → g'.get b = g.get b := fun b hb => by rw [h4] at hb; cases hb; exact keep h5
      exact .inr ⟨V, l, a, h1, h2, h3, h4, h5, h6.fr hk, h7.fr hk⟩
theorem WQ.up (D : WQ g q col on sl n) {F : Nat → Prop} (f : Fr F g g') (hF : ∀ a, F a → col a = none) : WQ g' q col on sl n := by
  obtain ⟨ms, mo, mpS, mpO, nS, D⟩ := D
  exact ⟨ms, mo, mpS, mpO, nS, D.up f hF⟩
/-- A channel's sleepers have turned. -/
theorem WQd.putS (D : WQd g q col on sl n ms mo mpS mpO nS) {c : Chan} {V : LV} {a nS' : Nat} {l : List Int} (f : Fr (fun b => b = ms ∨ col b = some (.s c)) g g') (hm : MapIs g' ms chanK.k (upd mpS c (some V)) nS') (hl : l ≠ [])
    (ho : V.obj = some a) (ha : (g.next ≤ a ∧ a < g'.next) ∨ col a = some (.s c)) (R : Row g' V intE l) (G : Grow g' V 1) (mi : Mine g' V) (nd : l.Nodup) (me : ∀ t ∈ l, ∃ cs, on t = some cs ∧ c ∈ cs) :
    ∃ col', WQd g' q col' on (upd sl c l) n ms mo (upd mpS c (some V)) mpO nS' ∧ FrQ g col g' col' := by
  classical
  have keep : ∀ {b t}, col b = some t → t ≠ .ms → t ≠ .s c → g'.get b = g.get b := fun {b t} h h1 h2 => f.eq b (D.lt b (by rw [h]; simp)) fun hf => by
    rcases hf with rfl | hf
    · rw [D.cs] at h; cases h; exact h1 rfl
    · rw [hf] at h; cases h; exact h2 rfl
  have hne : ∀ {b t}, col b = some t → t ≠ .s c → b ≠ a := fun {b t} h h2 e => by
    subst e
    rcases ha with ha | ha
    · have := D.lt b (by rw [h]; simp); omega
    · rw [ha] at h; cases h; exact h2 rfl
  refine ⟨fun b => if b = a then some (.s c) else col b, ⟨(keep D.cq (by simp) (by simp)).trans D.at_, hm, D.mapO.fr (keep D.co (by simp) (by simp)), ?_, ?_, ?_, fun c' => ?_, fun t => ?_, fun b hb => ?_, fun c' => ?_, fun c' t ht => ?_, D.most, D.short⟩, ⟨f.le, fun b hb hc => ?_⟩⟩
  · simp only [if_neg (hne D.cq (by simp)), D.cq]
  · simp only [if_neg (hne D.cs (by simp)), D.cs]
  · simp only [if_neg (hne D.co (by simp)), D.co]
  · by_cases hcc : c' = c
    · subst hcc
      exact .inr ⟨V, a, upd_at _ _ _, by rw [upd_at]; exact hl, ho, if_pos rfl, by rw [upd_at]; exact R, G, mi⟩
    · rw [upd_ne _ _ hcc, upd_ne _ _ hcc]
      rcases D.sls c' with h | ⟨V', a', h1, h2, h3, h4, h5, h6, h7⟩
      · exact .inl h
      · have hk : ∀ b, V'.obj = some b → g'.get b = g.get b := fun b hb => by rw [h3] at hb; cases hb; exact keep h4 (by simp) (by simpa using hcc)
        exact .inr ⟨V', a', h1, h2, h3, by rw [if_neg (hne h4 (by simpa using hcc))]; exact h4, h5.fr hk, h6.fr hk, h7.fr hk⟩
  · rcases D.ons t with h | ⟨V', l', a', h1, h2, h3, h4, h5, h6, h7⟩
    · exact .inl h
    · have hk : ∀ b, V'.obj = some b → g'.get b = g.get b := fun b hb => by rw [h4] at hb; cases hb; exact keep h5 (by simp) (by simp)
      exact .inr ⟨V', l', a', h1, h2, h3, h4, by rw [if_neg (hne h5 (by simp))]; exact h5, h6.fr hk, h7.fr hk⟩
  · by_cases e : b = a
    · subst e
      rcases ha with ha | ha
      · exact ha.2
      · exact Nat.lt_of_lt_of_le (D.lt b (by rw [ha]; simp)) f.le
    · rw [if_neg e] at hb
      exact Nat.lt_of_lt_of_le (D.lt b hb) f.le
  · by_cases hcc : c' = c
    · subst hcc; rw [upd_at]; exact nd
    · rw [upd_ne _ _ hcc]; exact D.nod c'
  · by_cases hcc : c' = c
    · subst hcc; rw [upd_at] at ht; exact me t ht
    · rw [upd_ne _ _ hcc] at ht; exact D.mem c' t ht
  · refine ⟨f.eq b hb fun hf => ?_, ?_⟩
    · rcases hf with rfl | hf
      · rw [D.cs] at hc; cases hc
      · rw [hf] at hc; cases hc
    · rw [if_neg]
      · exact hc
      · rintro rfl
        rcases ha with ha | ha
        · omega
        · rw [ha] at hc; cases hc
theorem WQd.delS (D : WQd g q col on sl n ms mo mpS mpO nS) {c : Chan} {nS' : Nat} (f : Fr (fun b => b = ms ∨ col b = some (.s c)) g g') (hm : MapIs g' ms chanK.k (upd mpS c none) nS') :
    WQd g' q col on (upd sl c []) n ms mo (upd mpS c none) mpO nS' ∧ FrQ g col g' col := by
  have keep : ∀ {b t}, col b = some t → t ≠ .ms → t ≠ .s c → g'.get b = g.get b := fun {b t} h h1 h2 => f.eq b (D.lt b (by rw [h]; simp)) fun hf => by
    rcases hf with rfl | hf
    · rw [D.cs] at h; cases h; exact h1 rfl
    · rw [hf] at h; cases h; exact h2 rfl
  refine ⟨⟨(keep D.cq (by simp) (by simp)).trans D.at_, hm, D.mapO.fr (keep D.co (by simp) (by simp)), D.cq, D.cs, D.co, fun c' => ?_, fun t => ?_, fun b hb => Nat.lt_of_lt_of_le (D.lt b hb) f.le, fun c' => ?_, fun c' t ht => ?_, D.most, D.short⟩, ⟨f.le, fun b hb hc => ⟨f.eq b hb fun hf => ?_, hc⟩⟩⟩
  · by_cases hcc : c' = c
    · subst hcc; exact .inl ⟨upd_at _ _ _, upd_at _ _ _⟩
    · rw [upd_ne _ _ hcc, upd_ne _ _ hcc]
      rcases D.sls c' with h | ⟨V', a', h1, h2, h3, h4, h5, h6, h7⟩
      · exact .inl h
      · have hk : ∀ b, V'.obj = some b → g'.get b = g.get b := fun b hb => by rw [h3] at hb; cases hb; exact keep h4 (by simp) (by simpa using hcc)
        exact .inr ⟨V', a', h1, h2, h3, h4, h5.fr hk, h6.fr hk, h7.fr hk⟩
  · rcases D.ons t with h | ⟨V', l', a', h1, h2, h3, h4, h5, h6, h7⟩
    · exact .inl h
    · have hk : ∀ b, V'.obj = some b → g'.get b = g.get b := fun b hb => by rw [h4] at hb; cases hb; exact keep h5 (by simp) (by simp)
      exact .inr ⟨V', l', a', h1, h2, h3, h4, h5, h6.fr hk, h7.fr hk⟩
  · by_cases hcc : c' = c
    · subst hcc; rw [upd_at]; exact List.nodup_nil
    · rw [upd_ne _ _ hcc]; exact D.nod c'
  · by_cases hcc : c' = c
    · subst hcc; rw [upd_at] at ht; cases ht
    · rw [upd_ne _ _ hcc] at ht; exact D.mem c' t ht
  · rcases hf with rfl | hf
    · rw [D.cs] at hc; cases hc
    · rw [hf] at hc; cases hc
end Go.Proofs.Ytgncgokjbakdmaa
