/-
  The logical machine, part O: regions.
-/
import Derived.Test.YtaofgdibpbpalaaLmN
namespace Go.Lm

variable {P : Program} {W : World} {keep : Nat → Prop} {ρ : Ren} {g : LHeap} {w : World}

/-! ### A state of the frame -/
structure SRel (W : World) (keep : Nat → Prop) (ρ : Ren) (N : Nat) (st : LSt) (a : Act) (w : World) : Prop where
  rel : Rel W keep ρ st.g w
  tm : TRel ρ st.g.next st.tm a.tmps
  size : a.tmps.size = N
  defers : a.defers = []
/-- Behind a state: some state that follows it. -/
def Later (W : World) (keep : Nat → Prop) (ρ : Ren) (N : Nat) (n : Nat) (K : LSt → Prop) : Act → World → Prop := fun a w =>
  ∃ st ρ', Ren.Ext n ρ ρ' ∧ n ≤ st.g.next ∧ SRel W keep ρ' N st a w ∧ K st

theorem Later.mono {N n : Nat} {K K' : LSt → Prop} {a : Act} {w : World} (h : Later W keep ρ N n K a w) (hk : ∀ st, K st → K' st) : Later W keep ρ N n K' a w := by
  obtain ⟨st, ρ', h1, h2, h3, h4⟩ := h
  exact ⟨st, ρ', h1, h2, h3, hk _ h4⟩
theorem Later.trans {N n m : Nat} {ρ1 : Ren} {K : LSt → Prop} {a : Act} {w : World} (hx : Ren.Ext n ρ ρ1) (hnm : n ≤ m) (h : Later W keep ρ1 N m K a w) : Later W keep ρ N n K a w := by
  obtain ⟨st, ρ', h1, h2, h3, h4⟩ := h
  exact ⟨st, ρ', hx.trans h1 hnm, Nat.le_trans hnm h2, h3, h4⟩

theorem TRel.put {n : Nat} {tm : Nat → LV} {a : Act} {d : Nat} {v : LV} (h : TRel ρ n tm a.tmps) (hd : d < a.tmps.size) (hv : v.ok ρ n) : TRel ρ n (putL tm (some d) v) (a.put (some d) (v.toV ρ)).tmps where
  val t := by
    simp only [Act.put, putL]
    by_cases ht : t = d
    · subst ht
      simp [hd]
    · have : Nat.beq t d = false := by
        cases hb : Nat.beq t d with
        | false => rfl
        | true => exact absurd (Nat.eq_of_beq_eq_true hb) ht
      simp only [this, Bool.false_eq_true, if_false]
      rw [← h.val t]
      simp [Array.getElem?_setIfInBounds_ne (Ne.symm ht)]
  ok t := by
    simp only [putL]
    split
    · exact hv
    · exact h.ok t
theorem TRel.ext {n m : Nat} {ρ' : Ren} {tm : Nat → LV} {tmps : Array Value} (h : TRel ρ n tm tmps) (hx : Ren.Ext n ρ ρ') (hnm : n ≤ m) : TRel ρ' m tm tmps where
  val t := by rw [h.val t, LV.toV_ext hx _ (h.ok t)]
  ok t := LV.ok_ext hx hnm _ (h.ok t)
def dstOK (N : Nat) (o : Oper) : Bool := match o.dst with | some d => Nat.blt d N | none => true
theorem SRel.put {N : Nat} {st : LSt} {a : Act} {o : Oper} {v : LV} {g' : LHeap} {ρ' : Ren} {w' : World} (h : SRel W keep ρ N st a w) (hd : dstOK N o = true) (hp : Post W keep ρ st.g v g' ρ' w') :
    SRel W keep ρ' N ⟨putL st.tm o.dst v, g'⟩ (a.put o.dst (v.toV ρ')) w' := by
  have ht := h.tm.ext hp.ext hp.le
  obtain ⟨dst, op, type, pos, after, guard⟩ := o
  cases dst with
  | none => exact ⟨hp.rel, ht, h.size, h.defers⟩
  | some d =>
    have hd : d < N := by simpa [dstOK, Nat.blt_eq] using hd
    exact ⟨hp.rel, ht.put (by rw [h.size]; exact hd) hp.ok, by simp only [Act.put, Array.size_setIfInBounds]; exact h.size, h.defers⟩
theorem putL_same {tm : Nat → LV} {d : Nat} {v : LV} (h : tm d = v) : putL tm (some d) v = tm := by
  funext t
  simp only [putL]
  split
  · rename_i e; rw [Nat.eq_of_beq_eq_true e, h]
  · rfl
theorem undef_toV (ρ : Ren) : undefL.toV ρ = undef := rfl
theorem undef_ok (ρ : Ren) (n : Nat) : undefL.ok ρ n := by simp [undefL, LV.ok, oks]

/-- The guard, as the model asks it. -/
theorem wanted_of {ops : Array Oper} {o : Oper} {tm : Nat → LV} {n : Nat} {a : Act} {j : Nat} {want b : Bool} {d : Nat} (ht : TRel ρ n tm a.tmps) (hg : o.guard = some (j, want)) (hd : (ops[j]?).bind (·.dst) = some d) (hb : tm d = .bool b) :
    Region.wanted o (yielded ops a.tmps) = (b == want) := by
  have hv := ht.val d
  rw [hb] at hv
  have hsome : a.tmps[d]? = some (.bool b) := by
    simp only [LV.toV] at hv
    cases he : a.tmps[d]? with
    | none => simp [he, undef] at hv
    | some x => simp [he] at hv; rw [hv]
  simp only [Region.wanted, hg, yielded, hd, Option.bind_some, hsome]
  rfl

theorem wanted_undef {ops : Array Oper} {o : Oper} {tm : Nat → LV} {n : Nat} {a : Act} {j : Nat} {want : Bool} {d : Nat} (ht : TRel ρ n tm a.tmps) (hg : o.guard = some (j, want)) (hd : (ops[j]?).bind (·.dst) = some d) (hb : tm d = .tuple []) :
    Region.wanted o (yielded ops a.tmps) = false := by
  have hv := ht.val d
  rw [hb] at hv
  simp only [LV.toV, toVs] at hv
  simp only [Region.wanted, hg, yielded, hd, Option.bind_some]
  cases he : a.tmps[d]? with
  | none => rfl
  | some x =>
    have : x = .tuple #[] := by simpa [he] using hv
    subst this
    rfl

theorem step_sound {N : Nat} {ops : Array Oper} {i : Nat} {o : Oper} {st : LSt} {a : Act} {K : LSt → Prop} {Q : Exit → Act → World → Prop} (hi : ops[i]? = some o) (hf : fineOp o = true) (hd : dstOK N o = true) (h : SRel W keep ρ N st a w)
    (hK : stepL P (Ok P) ops o st K) : wpOp P ops Q i (Later W keep ρ N st.g.next K) a w := by
  unfold wpOp
  simp only [hi]
  have run : opL P (Ok P) st.tm o st.g (fun v g => K ⟨putL st.tm o.dst v, g⟩) → o.wp P a w (Later W keep ρ N st.g.next K) Q := by
    intro hK
    refine Oper.wp_mono (fun a' w' hn => ?_) (op_sound hf h.rel h.tm hK)
    obtain ⟨v, g', ρ', hp, rfl, hk⟩ := hn
    exact ⟨_, ρ', hp.ext, hp.le, h.put hd hp, hk⟩
  have skip : K ⟨putL st.tm o.dst undefL, st.g⟩ → Later W keep ρ N st.g.next K (a.put o.dst undef) w := by
    intro hk
    exact ⟨⟨putL st.tm o.dst undefL, st.g⟩, ρ, Ren.Ext.refl _ _, Nat.le_refl _, h.put hd (v := undefL) (Post.same h.rel (undef_ok _ _)), hk⟩
  unfold stepL at hK
  split at hK
  · rename_i hg
    have : Region.wanted o (yielded ops a.tmps) = true := by simp [Region.wanted, hg]
    rw [if_pos this]
    exact .inl (run hK)
  · rename_i j want hg
    split at hK
    · exact hK.elim
    · rename_i d hdj
      split at hK
      · rename_i hb
        have hw := wanted_of h.tm hg hdj hb
        rw [putL_same hb] at hK
        cases want with
        | true => rw [if_pos (by rw [hw]; rfl)]; exact .inl (run (by simpa using hK))
        | false => rw [if_neg (by rw [hw]; simp)]; exact skip (by simpa using hK)
      · rename_i hb
        have hw := wanted_of h.tm hg hdj hb
        rw [putL_same hb] at hK
        cases want with
        | true => rw [if_neg (by rw [hw]; simp)]; exact skip (by simpa using hK)
        | false => rw [if_pos (by rw [hw]; rfl)]; exact .inl (run (by simpa using hK))
      · rename_i hb
        rw [if_neg (by rw [wanted_undef h.tm hg hdj hb]; simp)]
        exact skip hK
      · exact hK.elim

theorem run_sound {N : Nat} {ops : Array Oper} {Q : Exit → Act → World → Prop} (hfine : ∀ o ∈ ops.toList, fineOp o = true ∧ dstOK N o = true) :
    ∀ (l : List Oper) (k : Nat) (st : LSt) (a : Act) (w : World) (ρ : Ren) (K : LSt → Prop), ops.toList.drop k = l → SRel W keep ρ N st a w → runL P (Ok P) ops l st K →
      (∀ a w, Later W keep ρ N st.g.next K a w → Q .normal a w) → wpOps P ops Q (List.range' k l.length) a w := by
  intro l
  induction l with
  | nil =>
    intro k st a w ρ K hl h hK hQ
    exact hQ _ _ ⟨st, ρ, Ren.Ext.refl _ _, Nat.le_refl _, h, hK⟩
  | cons o rest ih =>
    intro k st a w ρ K hl h hK hQ
    have ho : ops[k]? = some o := by
      have : (ops.toList.drop k)[0]? = some o := by rw [hl]; rfl
      rw [List.getElem?_drop] at this
      simpa using this
    have hmem : o ∈ ops.toList := by
      have : o ∈ ops.toList.drop k := by rw [hl]; simp
      exact List.mem_of_mem_drop this
    have hrest : ops.toList.drop (k + 1) = rest := by
      have : (ops.toList.drop k).drop 1 = rest := by rw [hl]; rfl
      rwa [List.drop_drop] at this
    rw [List.length_cons, List.range'_succ, wpOps_cons]
    refine wpOp_mono ?_ (step_sound ho (hfine o hmem).1 (hfine o hmem).2 h hK)
    rintro a' w' ⟨st', ρ', h1, h2, h3, h4⟩
    exact ih (k + 1) st' a' w' ρ' K hrest h3 h4 (fun a'' w'' hl => hQ _ _ (hl.trans h1 h2))
theorem region_sound {N id : Nat} {ops : Array Oper} {Q : Exit → Act → World → Prop} {st : LSt} {a : Act} {K : LSt → Prop} (hfine : ∀ o ∈ ops.toList, fineOp o = true ∧ dstOK N o = true) (h : SRel W keep ρ N st a w)
    (hK : runL P (Ok P) ops ops.toList st K) (hQ : ∀ a w, Later W keep ρ N st.g.next K a w → Q .normal a w) : (Code.region id ops false).wp P Q a w := by
  refine wp_region ?_
  have := run_sound (P := P) (Q := Q) hfine ops.toList 0 st a w ρ K rfl h hK hQ
  rw [List.range_eq_range']
  simpa using this

end Go.Lm
