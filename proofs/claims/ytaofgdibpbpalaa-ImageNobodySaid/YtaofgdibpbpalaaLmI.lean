/-
  The logical machine, part I: the other built-ins; what is made; conversions; iterators.
-/
import Derived.Test.YtaofgdibpbpalaaLmH
namespace Go.Lm

variable {P : Program} {W : World} {keep : Nat → Prop} {ρ : Ren} {g : LHeap} {w : World}

/-! ### copy, len, clear, max, min -/
theorem sim_copy {e : Nat} {d x v : LV} {g' : LHeap} {ts : Array TypeId} {ty t et : TypeId} (h : Rel W keep ρ g w) (hd : d.ok ρ g.next) (hx : x.ok ρ g.next) (hstr : (∃ b, x = .str b) → e = 1)
    (ht : ts[0]? = some t) (hel : sliceElem P t = some et) (hz : sizeL P et = some e) (hc : copyL e d x g = some (v, g')) :
    Makes P W keep ρ g w (Builtin.copy_ ts ty #[d.toV ρ, x.toV ρ]) v g' := by
  unfold copyL at hc
  split at hc
  · rename_i n new hxs
    obtain ⟨q1, -, q3, q4, q5⟩ := run_src (P := P) h hx hxs
    have hnew : new.length = n * e := q5.elim id fun ⟨a, b⟩ => absurd (hstr b) a
    have head : ∀ (base : Option Addr) (l c : Nat), d.toV ρ = .slice base l c → (Builtin.copy_ ts ty #[d.toV ρ, x.toV ρ]).run P w =
        ((do
          let n := Nat.min n l
          let cells ← Builtin.firstCells e n (x.toV ρ)
          if let some a := base then storeCells a cells.toList
          pure (goInt n)) : Sem Value).run P w := by
      intro base l c hv
      rw [hv]
      simp only [Builtin.copy_, ht, show ((#[Value.slice base l c, x.toV ρ] : Array Value))[0]? = some (.slice base l c) from rfl, show ((#[Value.slice base l c, x.toV ρ] : Array Value))[1]? = some (x.toV ρ) from rfl]
      rw [run_bind_ok (run_sliceElem hel w)]
      simp only
      rw [run_bind_ok q1, run_bind_ok (run_sizeL hz w)]
      rfl
    have zero : ∀ (base : Option Addr) (c : Nat), d.toV ρ = .slice base 0 c → Makes P W keep ρ g w (Builtin.copy_ ts ty #[d.toV ρ, x.toV ρ]) (.int .i64 0) g := by
      intro base c hv
      refine ⟨ρ, w, ?_, Post.same h (by simp [LV.ok])⟩
      rw [head base 0 c hv]
      simp only
      rw [run_bind_ok (run_firstCells h hx hxs (Nat.min_le_left _ _) hstr)]
      have : Nat.min n 0 = 0 := Nat.min_eq_right (Nat.zero_le _)
      rw [this]
      cases base with
      | none => rfl
      | some a => simp [toVs, storeCells, LV.toV, goInt]
    split at hc
    · cases hc; exact zero none 0 rfl
    · cases hc; exact zero _ _ rfl
    · rename_i a off len cp
      split at hc
      · rename_i g1 hst
        cases hc
        obtain ⟨cap, hv⟩ := slice_toV ρ a off len cp
        obtain ⟨w', s1, s2, s3⟩ := sim_storeCells (P := P) h hst (by
          exact (oks_iff _ _ _).2 fun v hv => (oks_iff _ _ _).1 q3 v (List.mem_of_mem_take hv))
        refine ⟨ρ, w', ?_, Ren.Ext.refl _ _, s2, by simp [LV.ok], by rw [s3]; exact Nat.le_refl _⟩
        rw [head _ _ _ hv]
        simp only
        rw [run_bind_ok (run_firstCells h hx hxs (Nat.min_le_left _ _) hstr)]
        simp only
        rw [run_bind_ok (show (storeCells (ρ.addr a off) (toVs ρ (new.take (Nat.min n len * e))).toArray.toList).run P w = .ok () w' from s1)]
        rfl
      · cases hc
    · cases hc
  · cases hc

theorem sim_len {t : TypeId} {x v : LV} {ts : Array TypeId} {ty : TypeId} {rest : List Value} (h : Rel W keep ρ g w) (ht : ts[0]? = some t) (hl : lenL P t x g = some v) :
    Yields1 P ρ g.next w (Builtin.len_ ts ty (x.toV ρ :: rest).toArray) v := by
  have h0 : ((x.toV ρ :: rest).toArray)[0]? = some (x.toV ρ) := rfl
  unfold lenL at hl
  split at hl
  · rename_i s hd
    cases hl
    refine ⟨?_, by simp [LV.ok]⟩
    simp only [Builtin.len_, ht, h0]
    rw [run_bind_ok (run_underlying' hd w)]
    simp [LV.toV, goInt, ByteArray.size]
  · rename_i n e hd
    cases hl
    refine ⟨?_, by simp [LV.ok]⟩
    simp only [Builtin.len_, ht, h0]
    rw [run_bind_ok (run_underlying' hd w)]
    simp [LV.toV, goInt]
  · rename_i a hd
    split at hl
    · rename_i n e ha
      cases hl
      refine ⟨?_, by simp [LV.ok]⟩
      simp only [Builtin.len_, ht, h0]
      rw [run_bind_ok (run_underlying' hd w)]
      simp only
      rw [run_bind_ok (run_underlying' ha w)]
      simp [LV.toV, goInt]
    · cases hl
  · rename_i e hd
    cases hl
    refine ⟨?_, by simp [LV.ok]⟩
    simp only [Builtin.len_, ht, h0]
    rw [run_bind_ok (run_underlying' hd w)]
    simp [LV.toV, goInt]
  · rename_i e hd
    cases hl
    refine ⟨?_, by simp [LV.ok]⟩
    simp only [Builtin.len_, ht, h0]
    rw [run_bind_ok (run_underlying' hd w)]
    simp [LV.toV, goInt]
  · rename_i e a off len c hd
    cases hl
    obtain ⟨cap, hv⟩ := slice_toV ρ a off len c
    refine ⟨?_, by simp [LV.ok]⟩
    simp only [Builtin.len_, ht, h0]
    rw [run_bind_ok (run_underlying' hd w), hv]
    simp [LV.toV, goInt]
  · rename_i k e hd
    cases hl
    refine ⟨?_, by simp [LV.ok]⟩
    simp only [Builtin.len_, ht, h0]
    rw [run_bind_ok (run_underlying' hd w)]
    simp [LV.toV, goInt]
  · rename_i k e a hd
    split at hl
    · rename_i es clock own hg
      cases hl
      refine ⟨?_, by simp [LV.ok]⟩
      simp only [Builtin.len_, ht, h0]
      rw [run_bind_ok (run_underlying' hd w)]
      simp only [LV.toV]
      rw [run_bind_ok (run_getMap h hg)]
      simp [goInt]
    · cases hl
  · cases hl

theorem zeroCells_eq {z : LV} (n : Nat) : Builtin.zeroCells (z.toV ρ).cells n = (toVs ρ (List.replicate n z.cells).flatten).toArray := by
  rw [LV.cells_toV]
  generalize z.cells = cs
  apply Array.ext'
  simp only [Builtin.zeroCells, Array.toList_map, Array.toList_range]
  rw [List.size_toArray, toVs_length]
  by_cases hz : cs.length = 0
  · have : cs = [] := List.length_eq_zero_iff.1 hz
    subst this
    have : (List.replicate n ([] : List LV)).flatten = [] := by simp
    simp [this, toVs]
  · apply List.ext_getElem?
    intro j
    rw [List.getElem?_map, toVs_getElem?]
    have hlen : (List.replicate n cs).flatten.length = n * cs.length := by simp
    by_cases hj : j < n * cs.length
    · rw [List.getElem?_range hj]
      have hm : j % cs.length < cs.length := Nat.mod_lt _ (by omega)
      have hget : (List.replicate n cs).flatten[j]? = cs[j % cs.length]? := by
        clear hlen
        induction n generalizing j with
        | zero => simp at hj
        | succ n ih =>
          rw [List.replicate_succ, List.flatten_cons, List.getElem?_append]
          by_cases hjc : j < cs.length
          · rw [if_pos hjc, Nat.mod_eq_of_lt hjc]
          · rw [if_neg hjc, ih (j - cs.length) (by rw [Nat.succ_mul] at hj; omega) (Nat.mod_lt _ (by omega))]
            rw [← Nat.mod_eq_sub_mod (by omega)]
      rw [hget, List.getElem?_eq_getElem hm]
      simp only [Option.map_some]
      congr 1
      have hm' : j % cs.length < (toVs ρ cs).toArray.size := by simp [toVs_length]; exact hm
      rw [getElem!_pos (toVs ρ cs).toArray (j % cs.length) hm']
      simp [toVs_eq]
    · have h2 : ¬ j < (List.range (n * cs.length)).length := by simpa using hj
      rw [List.getElem?_eq_none (by omega), List.getElem?_eq_none (by omega)]
      rfl

theorem sim_clear {t : TypeId} {x : LV} {g' : LHeap} {ts : Array TypeId} {ty : TypeId} (h : Rel W keep ρ g w) (ht : ts[0]? = some t) (hc : clearL P t x g = some g') :
    ∃ w', (Builtin.clear_ ts ty #[x.toV ρ]).run P w = .ok undef w' ∧ Rel W keep ρ g' w' ∧ g'.next = g.next := by
  have h0 : (#[x.toV ρ] : Array Value)[0]? = some (x.toV ρ) := rfl
  unfold clearL at hc
  split at hc
  · rename_i d hd
    cases hc
    refine ⟨w, ?_, h, rfl⟩
    simp only [Builtin.clear_, ht, h0]
    rw [run_bind_ok (run_underlying' hd w)]
    rfl
  · rename_i d hd
    cases hc
    refine ⟨w, ?_, h, rfl⟩
    simp only [Builtin.clear_, ht, h0]
    rw [run_bind_ok (run_underlying' hd w)]
    rfl
  · rename_i d hd
    cases hc
    refine ⟨w, ?_, h, rfl⟩
    simp only [Builtin.clear_, ht, h0]
    rw [run_bind_ok (run_underlying' hd w)]
    rfl
  · rename_i d a hd
    split at hc
    · rename_i es clock own hg
      split at hc
      · rename_i hown
        cases hc
        obtain ⟨w', r1, r2, r3⟩ := run_setMap (P := P) (clock' := clock) (es' := []) h hg hown (by simp)
        refine ⟨w', ?_, r2, r3⟩
        simp only [Builtin.clear_, ht, h0]
        rw [run_bind_ok (run_underlying' hd w)]
        simp only [LV.toV]
        rw [run_bind_ok (run_getMap h hg)]
        simp only
        rw [run_bind_ok (show (setObj (ρ.blk a) (.map #[] clock)).run P w = .ok () w' from r1)]
        rfl
      · cases hc
    · cases hc
  · rename_i e a off len c hd
    split at hc
    · rename_i z hz
      obtain ⟨cap, hv⟩ := slice_toV ρ a off len c
      obtain ⟨z1, z2⟩ := run_zeroL (P := P) hz ρ g.next w
      split at hc
      · rename_i hl0
        subst hl0
        cases hc
        refine ⟨w, ?_, h, rfl⟩
        simp only [Builtin.clear_, ht, h0]
        rw [run_bind_ok (run_underlying' hd w), hv]
        rfl
      · rename_i hl0
        obtain ⟨w', s1, s2, s3⟩ := sim_storeCells (P := P) h hc ((oks_iff _ _ _).2 fun v hv => by
          obtain ⟨l, hl, hv⟩ := List.mem_flatten.1 hv
          rw [List.mem_replicate] at hl
          rw [hl.2] at hv
          exact (oks_iff _ _ _).1 (LV.cells_ok z2) v hv)
        refine ⟨w', ?_, s2, s3⟩
        simp only [Builtin.clear_, ht, h0]
        rw [run_bind_ok (run_underlying' hd w), hv]
        cases len with
        | zero => exact absurd rfl hl0
        | succ len =>
          simp only
          rw [run_bind_ok z1, run_bind_ok (show (storeCells (ρ.addr a off) (Builtin.zeroCells (z.toV ρ).cells (len + 1)).toList).run P w = .ok () w' by rw [zeroCells_eq]; exact s1)]
          rfl
    · cases hc
  · cases hc

theorem foldlM_run {f : Value → Value → Sem Value} {fl : LV → LV → Option LV} (hf : ∀ x y v, fl x y = some v → (f (x.toV ρ) (y.toV ρ)).run P w = .ok (v.toV ρ) w) :
    ∀ (l : List LV) (x v : LV), l.foldlM fl x = some v → ((toVs ρ l).foldlM f (x.toV ρ)).run P w = .ok (v.toV ρ) w := by
  intro l
  induction l with
  | nil => intro x v h; simp at h; subst h; rfl
  | cons y l ih =>
    intro x v h
    simp only [List.foldlM_cons, Option.bind_eq_bind, Option.bind_eq_some_iff] at h
    obtain ⟨u, h1, h2⟩ := h
    simp only [toVs, List.foldlM_cons]
    rw [run_bind_ok (hf x y u h1)]
    exact ih u v h2
theorem foldL_ok {fl : LV → LV → Option LV} (hf : ∀ x y v, fl x y = some v → v.ok ρ g.next) : ∀ (l : List LV) (x v : LV), x.ok ρ g.next → l.foldlM fl x = some v → v.ok ρ g.next := by
  intro l
  induction l with
  | nil => intro x v hx h; simp at h; subst h; exact hx
  | cons y l ih =>
    intro x v _ h
    simp only [List.foldlM_cons, Option.bind_eq_bind, Option.bind_eq_some_iff] at h
    obtain ⟨u, h1, h2⟩ := h
    exact ih u v (hf x y u h1) h2
theorem max2_run {x y v : LV} (h : max2L x y = some v) : (Builtin.max2 (x.toV ρ) (y.toV ρ)).run P w = .ok (v.toV ρ) w ∧ ∀ n, v.ok ρ n := by
  unfold max2L at h
  split at h
  · cases h; exact ⟨rfl, fun n => by simp [LV.ok]⟩
  · cases h
theorem min2_run {x y v : LV} (h : min2L x y = some v) : (Builtin.min2 (x.toV ρ) (y.toV ρ)).run P w = .ok (v.toV ρ) w ∧ ∀ n, v.ok ρ n := by
  unfold min2L at h
  split at h
  · cases h; exact ⟨rfl, fun n => by simp [LV.ok]⟩
  · cases h

/-! ### The built-ins -/
theorem sim_builtin {b : Builtin} {ts : Array TypeId} {args : List LV} {v : LV} {g' : LHeap} {ty : TypeId} {cs : Array Bool} (h : Rel W keep ρ g w) (hok : oks ρ g.next args) (hb : builtinL P b ts.toList args g = some (v, g')) :
    ∃ ρ' w', (builtin b ts ty cs (toVs ρ args).toArray).run P w = .ok (.value (v.toV ρ')) w' ∧ Post W keep ρ g v g' ρ' w' := by
  have lift : ∀ (s : Sem Value) (ρ' : Ren) (w' : World), s.run P w = .ok (v.toV ρ') w' → ((do pure (.value (← s)) : Sem Next)).run P w = .ok (.value (v.toV ρ')) w' := fun s ρ' w' e => by rw [run_bind_ok e]; rfl
  have first : ∀ {t : TypeId} {l : List TypeId}, ts.toList = t :: l → ts[0]? = some t := fun e => by rw [← Array.getElem?_toList, e]; rfl
  have second : ∀ {t t2 : TypeId} {l : List TypeId}, ts.toList = t :: t2 :: l → ts[1]? = some t2 := fun e => by rw [← Array.getElem?_toList, e]; rfl
  unfold builtinL at hb
  split at hb
  · unfold appendT at hb
    split at hb
    · rename_i t t2 s x hts
      split at hb
      · rename_i et d hel hu
        split at hb
        · cases hb
        · rename_i i hi hd2
          split at hb
          · rename_i z hz
            split at hb
            · cases hb
            · rename_i hc
              have hc : i.size ≠ 0 ∧ i.bytes ≠ 0 ∧ z.cells.size = i.size ∧ (x.isStr = true → i.size = 1) := by
                refine ⟨fun e => hc (.inl e), fun e => hc (.inr (.inl e)), Classical.byContradiction fun e => hc (.inr (.inr (.inl e))), fun e => Classical.byContradiction fun e2 => hc (.inr (.inr (.inr ⟨e, e2⟩)))⟩
              obtain ⟨c1, c2, c3, c4⟩ := hc
              obtain ⟨ρ', w', r1, r2⟩ := sim_append (P := P) (ty := ty) h hok.1 hok.2.1 (fun ⟨b, e⟩ => c4 (by rw [e]; rfl)) (first hts) (second hts) hel hu (fun k e => hd2 k (by rw [e])) hi hz c3 rfl (by omega) c2 hb
              exact ⟨ρ', w', lift _ _ _ r1, r2⟩
          · cases hb
        · cases hb
      · cases hb
    · cases hb
  · unfold copyT at hb
    split at hb
    · rename_i t l d x hts
      split at hb
      · rename_i et hel
        split at hb
        · rename_i e hz
          split at hb
          · cases hb
          · rename_i he
            obtain ⟨ρ', w', r1, r2⟩ := sim_copy (P := P) (ty := ty) h hok.1 hok.2.1 (fun ⟨b, e'⟩ => Classical.byContradiction fun e2 => he (.inr ⟨by rw [e']; rfl, e2⟩)) (first hts) hel hz hb
            exact ⟨ρ', w', lift _ _ _ r1, r2⟩
        · cases hb
      · cases hb
    · cases hb
  · split at hb
    · rename_i t l x xs hts
      obtain ⟨u, hu, heq⟩ := Option.map_eq_some_iff.1 hb
      cases heq
      obtain ⟨r1, r2⟩ := sim_len (P := P) (ty := ty) (rest := toVs ρ xs) h (first hts) hu
      exact ⟨ρ, w, lift _ _ _ r1, Post.same h r2⟩
    · cases hb
  · split at hb
    · rename_i t l x k hts
      obtain ⟨g1, hg1, heq⟩ := Option.map_eq_some_iff.1 hb
      cases heq
      obtain ⟨w', r1, r2, r3⟩ := sim_delete (P := P) (ty := ty) h (first hts) hg1
      exact ⟨ρ, w', lift _ ρ w' r1, Ren.Ext.refl _ _, r2, by simp [LV.ok, undefL, oks], by rw [r3]; exact Nat.le_refl _⟩
    · cases hb
  · split at hb
    · rename_i t l x hts
      obtain ⟨g1, hg1, heq⟩ := Option.map_eq_some_iff.1 hb
      cases heq
      obtain ⟨w', r1, r2, r3⟩ := sim_clear (P := P) (ty := ty) h (first hts) hg1
      exact ⟨ρ, w', lift _ ρ w' r1, Ren.Ext.refl _ _, r2, by simp [LV.ok, undefL, oks], by rw [r3]; exact Nat.le_refl _⟩
    · cases hb
  · obtain ⟨u, hu, heq⟩ := Option.map_eq_some_iff.1 hb
    cases heq
    cases args with
    | nil => simp [foldL] at hu
    | cons x xs =>
      refine ⟨ρ, w, lift _ _ _ ?_, Post.same h (foldL_ok (fun x y v hv => (max2_run (P := P) (w := w) hv).2 _) xs x _ hok.1 hu)⟩
      exact foldlM_run (fun x y v hv => (max2_run hv).1) xs x _ hu
  · obtain ⟨u, hu, heq⟩ := Option.map_eq_some_iff.1 hb
    cases heq
    cases args with
    | nil => simp [foldL] at hu
    | cons x xs =>
      refine ⟨ρ, w, lift _ _ _ ?_, Post.same h (foldL_ok (fun x y v hv => (min2_run (P := P) (w := w) hv).2 _) xs x _ hok.1 hu)⟩
      exact foldlM_run (fun x y v hv => (min2_run hv).1) xs x _ hu
  · cases hb

end Go.Lm
