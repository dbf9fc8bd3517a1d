/-
  The logical machine, part G: maps.
-/
import Derived.Test.YtaofgdibpbpalaaLmF
namespace Go.Lm

variable {P : Program} {W : World} {keep : Nat → Prop} {ρ : Ren} {g : LHeap} {w : World}

theorem sameNow_eqTy {t : TypeId} {d : TypeDesc} {x y : LV} {b c : Bool} (hd : P.underlying t = some d) (h : Instr.sameNow d (x.toV ρ) (y.toV ρ) = some b) (h2 : eqTy P 60 t x y = some c) : b = c := by
  unfold eqTy at h2
  rw [hd] at h2
  cases x with
  | int k a =>
    cases y with
    | int k' a' =>
      cases d <;> simp [Instr.sameNow, LV.toV] at h h2
      obtain ⟨_, h⟩ := h
      obtain ⟨_, h2⟩ := h2
      rw [← h, ← h2]
    | slice _ _ _ cc => cases cc <;> cases d <;> simp [Instr.sameNow, LV.toV] at h
    | _ => cases d <;> simp [Instr.sameNow, LV.toV] at h
  | str a =>
    cases y with
    | str a' =>
      cases d <;> simp [Instr.sameNow, LV.toV] at h h2
      rw [str_eq'] at h
      rw [← h, ← h2]
    | slice _ _ _ cc => cases cc <;> cases d <;> simp [Instr.sameNow, LV.toV] at h
    | _ => cases d <;> simp [Instr.sameNow, LV.toV] at h
  | bool a =>
    cases y with
    | bool a' =>
      cases d <;> simp [Instr.sameNow, LV.toV] at h h2
      rw [← h, ← h2]
    | slice _ _ _ cc => cases cc <;> cases d <;> simp [Instr.sameNow, LV.toV] at h
    | _ => cases d <;> simp [Instr.sameNow, LV.toV] at h
  | slice _ _ _ cc => cases cc <;> cases d <;> simp [Instr.sameNow, LV.toV] at h
  | _ => cases d <;> simp [Instr.sameNow, LV.toV] at h

def toR (ρ : Ren) (r : Option (Nat × LV)) : Option (Nat × Value) := r.map fun p => (p.1, p.2.toV ρ)

theorem findNow_eq {t : TypeId} {d : TypeDesc} {k : LV} (hd : P.underlying t = some d) : ∀ (es : List (LV × LV × Nat)) (i : Nat) (r : Option (Nat × LV)) (r' : Option (Nat × Value)),
    findL P t k es i = some r → Instr.findNow d (k.toV ρ) (es.map (toE ρ)) i = some r' → r' = toR ρ r := by
  intro es
  induction es with
  | nil => intro i r r' h h'; simp [findL] at h; simp [Instr.findNow] at h'; subst h; subst h'; rfl
  | cons e es ih =>
    intro i r r' h h'
    simp only [findL] at h
    simp only [List.map_cons, Instr.findNow, toE] at h'
    split at h
    · rename_i he
      cases h
      split at h'
      · cases h'; rfl
      · rename_i hs; have := sameNow_eqTy hd hs he; cases this
      · cases h'
    · rename_i he
      split at h'
      · rename_i hs; have := sameNow_eqTy hd hs he; cases this
      · exact ih _ _ _ h h'
      · cases h'
    · cases h
theorem run_findAsking {t : TypeId} {k : LV} : ∀ (es : List (LV × LV × Nat)) (i : Nat) (r : Option (Nat × LV)) (w : World),
    findL P t k es i = some r → (Instr.findAsking t (k.toV ρ) (es.map (toE ρ)) i).run P w = .ok (toR ρ r) w := by
  intro es
  induction es with
  | nil => intro i r w h; simp [findL] at h; subst h; rfl
  | cons e es ih =>
    intro i r w h
    simp only [findL] at h
    simp only [List.map_cons, Instr.findAsking, toE]
    split at h
    · rename_i he
      cases h
      rw [run_bind_ok (run_equal he w)]
      rfl
    · rename_i he
      rw [run_bind_ok (run_equal he w)]
      exact ih _ _ w h
    · cases h
theorem run_findKey {t : TypeId} {k : LV} {es : List (LV × LV × Nat)} {r : Option (Nat × LV)} {d : TypeDesc} (hd : P.underlying t = some d) (h : findL P t k es 0 = some r) (w : World) :
    (Instr.findKey t (k.toV ρ) (es.map (toE ρ))).run P w = .ok (toR ρ r) w := by
  simp only [Instr.findKey]
  rw [run_bind_ok (run_underlying' hd w)]
  cases hn : Instr.findNow d (k.toV ρ) (es.map (toE ρ)) 0 with
  | some r' => rw [findNow_eq hd es 0 r r' h hn]; rfl
  | none => exact run_findAsking es 0 r w h

theorem run_checkKey : ∀ (d : Nat) (t : TypeId) (v : LV) (b : Bool) (m : Nat) (w : World), checkKeyL P d t v = true → (Instr.checkKey b (d + m) t (v.toV ρ)).run P w = .ok () w := by
  intro d
  induction d with
  | zero => intro t v b m w h; simp [checkKeyL] at h
  | succ d ih =>
    intro t v b m w h
    rw [show d + 1 + m = (d + m) + 1 by omega]
    unfold checkKeyL at h
    simp only [Instr.checkKey]
    split at h
    · rename_i hd; rw [run_bind_ok (run_underlying' hd w)]; rfl
    · rename_i hd; rw [run_bind_ok (run_underlying' hd w)]; rfl
    · rename_i hd; rw [run_bind_ok (run_underlying' hd w)]; rfl
    · rename_i fs cs hd
      rw [run_bind_ok (run_underlying' hd w)]
      simp only [LV.toV]
      rw [← Array.forIn_toList]
      have hall : ∀ f ∈ fs.toList, (match aggN P f.type with
        | some n => match partL n cs f.offset with
          | some x => checkKeyL P d f.type x
          | none => false
        | none => false) = true := fun f hf => by
          have := Array.all_eq_true_iff_forall_mem.1 h f (by simpa using hf)
          exact this
      clear h hd
      refine (run_bind_ok (a := PUnit.unit) (w' := w) ?_).trans rfl
      revert hall
      generalize fs.toList = l
      intro hall
      induction l with
      | nil => simp
      | cons f l ihl =>
        have h1 := hall f (by simp)
        simp only [List.forIn_cons, Sem.run_bind]
        split at h1
        · rename_i n hn
          split at h1
          · rename_i x hx
            by_cases hf : f.name = "_"
            · simp only [ne_eq, hf, not_true_eq_false, if_false, Sem.run_pure, Result.andThen_ok]
              exact ihl fun f hf => hall f (by simp [hf])
            · simp only [ne_eq, hf, not_false_eq_true, if_true, Sem.run_bind, run_partN hn hx, Result.andThen_ok, ih _ _ b m w h1, Sem.run_pure]
              exact ihl fun f hf => hall f (by simp [hf])
          · cases h1
        · cases h1
    · rename_i len e cs hd
      rw [run_bind_ok (run_underlying' hd w)]
      simp only [LV.toV]
      split at h
      · rename_i n z hn hz
        have hall : ∀ i ∈ List.range len, (match partL n cs (i * z) with
          | some x => checkKeyL P d e x
          | none => false) = true := fun i hi => List.all_eq_true.1 h i hi
        clear h hd
        simp only [Std.Legacy.Range.forIn_eq_forIn_range', Std.Legacy.Range.size, Nat.sub_zero, Nat.add_one_sub_one, Nat.div_one]
        rw [List.range_eq_range'] at hall
        refine (run_bind_ok (a := PUnit.unit) (w' := w) ?_).trans rfl
        revert hall
        generalize List.range' 0 len = l
        intro hall
        induction l with
        | nil => simp
        | cons i l ihl =>
          have h1 := hall i (by simp)
          simp only [List.forIn_cons, Sem.run_bind]
          split at h1
          · rename_i x hx
            simp only [run_sizeL hz, Result.andThen_ok, run_partN hn hx, ih _ _ b m w h1, Sem.run_pure]
            exact ihl fun i hi => hall i (by simp [hi])
          · cases h1
      · cases h
    · cases h
theorem run_checkKey60 {t : TypeId} {v : LV} {b : Bool} (h : checkKeyL P 60 t v = true) (w : World) : (Instr.checkKey b 10000 t (v.toV ρ)).run P w = .ok () w := run_checkKey 60 t v b 9940 w h

theorem findL_spec {t : TypeId} {k : LV} : ∀ (es : List (LV × LV × Nat)) (i j : Nat) (v : LV), findL P t k es i = some (some (j, v)) → i ≤ j ∧ ∃ e, es[j - i]? = some e ∧ e.2.1 = v := by
  intro es
  induction es with
  | nil => intro i j v h; simp [findL] at h
  | cons e es ih =>
    intro i j v h
    simp only [findL] at h
    split at h
    · cases h; exact ⟨Nat.le_refl _, e, by simp, rfl⟩
    · obtain ⟨h1, e', h2, h3⟩ := ih _ _ _ h
      refine ⟨by omega, e', ?_, h3⟩
      rw [show j - i = (j - (i + 1)) + 1 by omega]
      simpa using h2
    · cases h

theorem under_of_check {t : TypeId} {k : LV} (h : checkKeyL P 60 t k = true) : ∃ d, P.underlying t = some d := by
  cases hu : P.underlying t with
  | some d => exact ⟨d, rfl⟩
  | none => unfold checkKeyL at h; simp [hu] at h

/-! ### The map's object -/
theorem Rel.mapObj {a clock : Nat} {es : List (LV × LV × Nat)} {own : Own} (h : Rel W keep ρ g w) (hg : g.get a = some (.map es clock own)) :
    w.heap[ρ.blk a]? = some (.map (es.map (toE ρ)).toArray clock) := (h.obj a _ hg).2.2
theorem run_getMap {a clock : Nat} {es : List (LV × LV × Nat)} {own : Own} (h : Rel W keep ρ g w) (hg : g.get a = some (.map es clock own)) :
    (getObj (ρ.blk a)).run P w = .ok (.map (es.map (toE ρ)).toArray clock) w := by
  simp [getObj, Sem.run, h.mapObj hg]
theorem run_setMap {a clock clock' : Nat} {es es' : List (LV × LV × Nat)} {own : Own} (h : Rel W keep ρ g w) (hg : g.get a = some (.map es clock own)) (hown : own ≠ .ro)
    (hes : ∀ e ∈ es', EOk ρ g.next e) :
    Turns P W keep ρ g w (setObj (ρ.blk a) (.map (es'.map (toE ρ)).toArray clock')) (g.set a (.map es' clock' own)) := by
  have hlt := (Array.getElem?_eq_some_iff.1 (h.mapObj hg)).1
  refine ⟨{ w with heap := w.heap.setIfInBounds (ρ.blk a) (.map (es'.map (toE ρ)).toArray clock') }, ?_, ?_, rfl⟩
  · simp [setObj, Sem.run, h.mapObj hg]
  · refine h.turn hg (by cases own <;> simp_all [LObj.mine]) ⟨hes, ?_⟩
    simp [hlt]

def lookTail (kt et : TypeId) (ok : Bool) (k : Value) (es : Array MapEntry) : Sem Value := do
  Instr.checkKey es.isEmpty 10000 kt k
  let r ← Instr.findKey kt k es.toList
  match r with
  | some (_, v) => do
    let x ← pure (v, true)
    pure (if ok then .tuple #[x.1, .bool x.2] else x.1)
  | none => do
    let z ← zeroValue et
    let x ← pure (z, false)
    pure (if ok then .tuple #[x.1, .bool x.2] else x.1)
theorem run_lookTail {kt et : TypeId} {ok : Bool} {k v : LV} {d : TypeDesc} {n : Nat} (hd : P.underlying kt = some d) (hck : checkKeyL P 60 kt k = true) {es : List (LV × LV × Nat)} (hes : ∀ e ∈ es, EOk ρ n e)
    (hl : (match findL P kt k es 0 with
            | some (some (_, v)) => some (if ok then LV.tuple [v, .bool true] else v)
            | some none => match zeroL P et with
              | some z => some (if ok then .tuple [z, .bool false] else z)
              | none => none
            | none => none) = some v) (w : World) : Yields1 P ρ n w (lookTail kt et ok (k.toV ρ) (es.map (toE ρ)).toArray) v := by
  unfold Yields1 lookTail
  rw [run_bind_ok (run_checkKey60 hck w)]
  split at hl
  · rename_i i u hf
    cases hl
    rw [run_bind_ok (run_findKey hd hf w)]
    obtain ⟨_, e, he, hev⟩ := findL_spec _ _ _ _ hf
    have hok : u.ok ρ n := hev ▸ (hes e (List.mem_of_getElem? he)).2
    cases ok
    · exact ⟨rfl, hok⟩
    · exact ⟨rfl, by simp only [if_true, LV.ok, oks]; exact ⟨hok, trivial, trivial⟩⟩
  · rename_i hf
    split at hl
    · rename_i z hz
      cases hl
      obtain ⟨z1, z2⟩ := run_zeroL (P := P) hz ρ n w
      rw [run_bind_ok (run_findKey hd hf w)]
      simp only [toR, Option.map_none]
      rw [run_bind_ok z1]
      cases ok
      · exact ⟨rfl, z2⟩
      · exact ⟨rfl, by simp only [if_true, LV.ok, oks]; exact ⟨z2, trivial, trivial⟩⟩
    · cases hl
  · cases hl
theorem sim_lookup {t : TypeId} {x k v : LV} {ok : Bool} (h : Rel W keep ρ g w) (hl : lookupL P t x k ok g = some v) :
    Yields1 P ρ g.next w (Instr.lookup t (x.toV ρ) (k.toV ρ) ok) v := by
  unfold lookupL at hl
  split at hl
  · rename_i kt et hm
    split at hl
    · rename_i hck
      obtain ⟨d, hd⟩ := under_of_check hck
      unfold Yields1
      simp only [Instr.lookup]
      rw [run_bind_ok (run_mapShape hm w)]
      cases x with
      | nilm =>
        simp only at hl
        simp only [LV.toV]
        rw [run_bind_ok (run_pure P _ w)]
        exact run_lookTail (es := []) (ρ := ρ) (n := g.next) hd hck (by simp) hl w
      | map a =>
        simp only at hl
        split at hl
        · rename_i es' heq
          split at heq
          · rename_i es clock own hg
            cases heq
            simp only [LV.toV]
            rw [run_bind_ok (run_getMap h hg)]
            simp only
            rw [run_bind_ok (run_pure P _ w)]
            exact run_lookTail (ρ := ρ) (n := g.next) hd hck (h.obj a _ hg).2.1 hl w
          · cases heq
        · cases hl
      | _ => simp at hl
    · cases hl
  · cases hl

theorem same1_bits {x y : LV} (h : same1 x y = true) (n : Nat) : Instr.sameBits n (x.toV ρ) (y.toV ρ) = true := by
  unfold same1 at h
  split at h
  · simpa [LV.toV, Instr.sameBits] using h
  · simpa [LV.toV, Instr.sameBits] using h
  · simp only [LV.toV, Instr.sameBits]
    rw [str_eq']; exact h
  · cases h
theorem sames_bits : ∀ (xs ys : List LV), sames xs ys = true → ∀ n, (toVs ρ xs).length = (toVs ρ ys).length ∧ ((toVs ρ xs).zip (toVs ρ ys)).all (fun (x, y) => Instr.sameBits n x y) = true := by
  intro xs
  induction xs with
  | nil => intro ys h n; cases ys <;> simp_all [sames, toVs]
  | cons x xs ih =>
    intro ys h n
    cases ys with
    | nil => simp [sames] at h
    | cons y ys =>
      simp only [sames, Bool.and_eq_true] at h
      obtain ⟨h1, h2⟩ := ih ys h.2 n
      simp only [toVs, List.length_cons, h1, List.zip_cons_cons, List.all_cons, same1_bits h.1, h2]
      simp
theorem sameL_bits {x y : LV} (h : sameL x y = true) : Instr.sameBits 10000 (x.toV ρ) (y.toV ρ) = true := by
  unfold sameL at h
  split at h
  · rename_i a b
    obtain ⟨h1, h2⟩ := sames_bits (ρ := ρ) a b h 9999
    simp only [LV.toV, Instr.sameBits]
    simp only [List.size_toArray, h1, beq_self_eq_true, Bool.true_and]
    exact h2
  · exact same1_bits h _
theorem run_keyThatStays {x y : LV} (h : sameL x y = true) (w : World) : (Instr.keyThatStays (x.toV ρ) (y.toV ρ)).run P w = .ok (y.toV ρ) w := by
  simp only [Instr.keyThatStays, sameL_bits h, if_true]; rfl

theorem setAt_spec {es es' : List (LV × LV × Nat)} {i : Nat} {k v : LV} (h : setAt es i k v = some es') : ∃ e, es[i]? = some e ∧ sameL e.1 k = true ∧ es' = es.set i (k, v, e.2.2) := by
  unfold setAt at h
  split at h
  · rename_i e he
    split at h
    · rename_i hs; cases h; exact ⟨e, he, hs, rfl⟩
    · cases h
  · cases h
theorem modify_map {es : List (LV × LV × Nat)} {i : Nat} {e : LV × LV × Nat} {f : MapEntry → MapEntry} {e' : LV × LV × Nat} (he : es[i]? = some e) (hf : f (toE ρ e) = toE ρ e') :
    ((es.map (toE ρ)).toArray.modify i f) = ((es.set i e').map (toE ρ)).toArray := by
  apply Array.ext_getElem?
  intro j
  rw [Array.getElem?_modify]
  simp only [List.getElem?_toArray, List.getElem?_map, List.getElem?_set]
  by_cases hj : i = j
  · subst hj
    have := (List.getElem?_eq_some_iff.1 he).1
    rw [if_pos rfl, if_pos rfl, if_pos this, he, Option.map_some, Option.map_some, Option.map_some, hf]
  · simp [hj]
theorem eok_set {es : List (LV × LV × Nat)} {i n : Nat} {e' : LV × LV × Nat} (h : ∀ e ∈ es, EOk ρ n e) (h' : EOk ρ n e') : ∀ e ∈ es.set i e', EOk ρ n e := fun e he => by
  rcases List.mem_or_eq_of_mem_set he with h1 | h1
  · exact h e h1
  · subst h1; exact h'

theorem sim_mapSet {t : TypeId} {x k v : LV} {g' : LHeap} (h : Rel W keep ρ g w) (hk : k.ok ρ g.next) (hv : v.ok ρ g.next) (hs : mapSetL P t x k v g = some g') :
    Turns P W keep ρ g w (Instr.mapUpdate t (x.toV ρ) (k.toV ρ) (v.toV ρ)) g' := by
  unfold mapSetL at hs
  split at hs
  · rename_i kt et a hm
    split at hs
    · rename_i es clock own hg
      split at hs
      · rename_i hc
        obtain ⟨hown, hck⟩ := hc
        obtain ⟨d, hd⟩ := under_of_check hck
        have hes := (h.obj a _ hg).2.1
        simp only [LV.toV, Instr.mapUpdate]
        unfold Turns
        rw [run_bind_ok (run_mapShape hm w)]
        simp only
        rw [run_bind_ok (run_getMap h hg)]
        simp only
        rw [run_bind_ok (run_checkKey60 hck w)]
        split at hs
        · rename_i i u hf
          obtain ⟨es', he', rfl⟩ := Option.map_eq_some_iff.1 hs
          obtain ⟨e, he, hsame, rfl⟩ := setAt_spec he'
          rw [run_bind_ok (run_findKey hd hf w)]
          simp only [toR, Option.map_some]
          have hkey : ((((es.map (toE ρ)).toArray)[i]?).map (·.key)).getD (k.toV ρ) = e.1.toV ρ := by simp [he, toE]
          rw [hkey, run_bind_ok (run_keyThatStays hsame w)]
          rw [modify_map (e' := (k, v, e.2.2)) he rfl]
          exact run_setMap h hg hown (eok_set hes ⟨hk, hv⟩)
        · rename_i hf
          cases hs
          rw [run_bind_ok (run_findKey hd hf w)]
          simp only [toR, Option.map_none]
          have : ((es.map (toE ρ)).toArray.push { key := k.toV ρ, val := v.toV ρ, born := clock }) = ((es ++ [(k, v, clock)]).map (toE ρ)).toArray := by
            simp [toE]
          rw [this]
          exact run_setMap h hg hown (fun e he => by
            rcases List.mem_append.1 he with h1 | h1
            · exact hes e h1
            · simp at h1; subst h1; exact ⟨hk, hv⟩)
        · cases hs
      · cases hs
    · cases hs
  · cases hs

theorem sim_mapEntry {t : TypeId} {x k v : LV} {g' : LHeap} (h : Rel W keep ρ g w) (hk : k.ok ρ g.next) (hs : mapEntryL P t x k g = some (v, g')) :
    Makes P W keep ρ g w (Instr.mapEntry t (x.toV ρ) (k.toV ρ)) v g' := by
  unfold mapEntryL at hs
  split at hs
  · rename_i kt et a hm
    split at hs
    · rename_i es clock own hg
      split at hs
      · rename_i hc
        obtain ⟨hown, hck⟩ := hc
        obtain ⟨d, hd⟩ := under_of_check hck
        have hes := (h.obj a _ hg).2.1
        simp only [LV.toV, Instr.mapEntry]
        unfold Makes
        rw [run_bind_ok (run_mapShape hm w)]
        simp only
        rw [run_bind_ok (run_getMap h hg)]
        simp only
        rw [run_bind_ok (run_checkKey60 hck w)]
        split at hs
        · rename_i i u hf
          rw [run_bind_ok (run_findKey hd hf w)]
          split at hs
          · rename_i e he
            obtain ⟨es', he', heq⟩ := Option.map_eq_some_iff.1 hs
            cases heq
            obtain ⟨e2, he2, hsame, rfl⟩ := setAt_spec he'
            rw [he] at he2
            cases he2
            obtain ⟨_, e3, he3, rfl⟩ := findL_spec _ _ _ _ hf
            simp only [Nat.sub_zero] at he3
            rw [he] at he3
            cases he3
            simp only [toR, Option.map_some]
            have hkey : ((((es.map (toE ρ)).toArray)[i]?).map (·.key)).getD (k.toV ρ) = e.1.toV ρ := by simp [he, toE]
            have hborn : ((((es.map (toE ρ)).toArray)[i]?).map (fun x => (x.born : Int))).getD 0 = e.2.2 := by simp [he, toE]
            rw [hkey, hborn, run_bind_ok (run_keyThatStays hsame w)]
            rw [modify_map (e' := (k, e.2.1, e.2.2)) he rfl]
            have heok := hes e (List.mem_of_getElem? he)
            obtain ⟨w', r1, r2, r3⟩ := run_setMap (P := P) (clock' := clock) h hg hown (eok_set (i := i) hes (show EOk ρ g.next (k, e.2.1, e.2.2) from ⟨hk, heok.2⟩))
            rw [run_bind_ok r1]
            exact ⟨ρ, w', by simp [LV.toV, toVs, goInt], Ren.Ext.refl _ _, r2, by simp only [LV.ok, oks]; exact ⟨by rw [r3]; exact heok.2, trivial, trivial⟩, by rw [r3]; exact Nat.le_refl _⟩
          · cases hs
        · rename_i hf
          split at hs
          · rename_i z hz
            cases hs
            obtain ⟨z1, z2⟩ := run_zeroL (P := P) hz ρ g.next w
            rw [run_bind_ok (run_findKey hd hf w)]
            simp only [toR, Option.map_none]
            rw [run_bind_ok z1]
            have : ((es.map (toE ρ)).toArray.push { key := k.toV ρ, val := z.toV ρ, born := clock }) = ((es ++ [(k, z, clock)]).map (toE ρ)).toArray := by
              simp [toE]
            rw [this]
            obtain ⟨w', r1, r2, r3⟩ := run_setMap (P := P) (clock' := clock + 1) (es' := es ++ [(k, z, clock)]) h hg hown (fun e he => by
              rcases List.mem_append.1 he with h1 | h1
              · exact hes e h1
              · simp at h1; subst h1; exact ⟨hk, z2⟩)
            rw [run_bind_ok r1]
            exact ⟨ρ, w', by simp [LV.toV, toVs, goInt], Ren.Ext.refl _ _, r2, by simp only [LV.ok, oks]; exact ⟨by rw [r3]; exact z2, trivial, trivial⟩, by rw [r3]; exact Nat.le_refl _⟩
          · cases hs
        · cases hs
      · cases hs
    · cases hs
  · cases hs

theorem findIdx_map {es : List (LV × LV × Nat)} {n : Int} : (es.map (toE ρ)).toArray.findIdx? (fun e => (e.born : Int) == n) = es.findIdx? (fun e => ((e.2.2 : Nat) : Int) == n) := by
  simp [List.findIdx?_map, Function.comp_def, toE]

theorem sim_entryStore {t : TypeId} {x s v : LV} {g' : LHeap} (h : Rel W keep ρ g w) (hv : v.ok ρ g.next) (hs : entryStoreL x s v g = some g') :
    Turns P W keep ρ g w (Instr.entryStore t (x.toV ρ) (s.toV ρ) (v.toV ρ)) g' := by
  unfold entryStoreL at hs
  split at hs
  · rename_i a k n
    split at hs
    · rename_i es clock own hg
      split at hs
      · rename_i hown
        have hes := (h.obj a _ hg).2.1
        simp only [LV.toV, Instr.entryStore]
        unfold Turns
        rw [run_bind_ok (run_getMap h hg)]
        simp only
        rw [run_bind_ok (show (asInt (.int k n)).run P w = .ok n w from rfl)]
        rw [findIdx_map]
        split at hs
        · rename_i i hi
          rw [hi]
          split at hs
          · rename_i e he
            cases hs
            simp only
            rw [modify_map (e' := (e.1, v, e.2.2)) he rfl]
            exact run_setMap h hg hown (eok_set hes ⟨(hes e (List.mem_of_getElem? he)).1, hv⟩)
          · cases hs
        · cases hs
      · cases hs
    · cases hs
  · cases hs

theorem eraseIdx_map' {α β : Type} (f : α → β) : ∀ (l : List α) (i : Nat), (l.map f).eraseIdx i = (l.eraseIdx i).map f
  | [], _ => rfl
  | _ :: _, 0 => rfl
  | _ :: l, i + 1 => by simp [eraseIdx_map' f l i]
theorem sim_delete {t : TypeId} {x k : LV} {g' : LHeap} {ts : Array TypeId} {ty : TypeId} (h : Rel W keep ρ g w) (hts : ts[0]? = some t) (hs : deleteL P t x k g = some g') :
    ∃ w', (Builtin.delete_ ts ty #[x.toV ρ, k.toV ρ]).run P w = .ok undef w' ∧ Rel W keep ρ g' w' ∧ g'.next = g.next := by
  unfold deleteL at hs
  split at hs
  · rename_i kt et hm
    split at hs
    · rename_i hck
      obtain ⟨d, hd⟩ := under_of_check hck
      simp only [Builtin.delete_, hts]
      simp only [show ((#[x.toV ρ, k.toV ρ] : Array Value))[0]? = some (x.toV ρ) from rfl, show ((#[x.toV ρ, k.toV ρ] : Array Value))[1]? = some (k.toV ρ) from rfl]
      rw [run_bind_ok (run_mapShape hm w)]
      simp only
      split at hs
      · cases hs
        simp only [LV.toV]
        rw [run_bind_ok (run_checkKey60 hck w)]
        exact ⟨w, rfl, h, by trivial⟩
      · rename_i a
        split at hs
        · rename_i es clock own hg
          split at hs
          · rename_i hown
            have hes := (h.obj a _ hg).2.1
            simp only [LV.toV]
            rw [run_bind_ok (run_getMap h hg)]
            simp only
            rw [run_bind_ok (run_checkKey60 hck w)]
            split at hs
            · rename_i i u hf
              cases hs
              rw [run_bind_ok (run_findKey hd hf w)]
              simp only [toR, Option.map_some]
              obtain ⟨_, e, he, _⟩ := findL_spec _ _ _ _ hf
              have hlt := (List.getElem?_eq_some_iff.1 he).1
              have : (es.map (toE ρ)).toArray.eraseIdxIfInBounds i = ((es.eraseIdx i).map (toE ρ)).toArray := by
                simp [eraseIdx_map']
              rw [this]
              obtain ⟨w', r1, r2, r3⟩ := run_setMap (P := P) (clock' := clock) h hg hown (fun e he => hes e (List.mem_of_mem_eraseIdx he) : ∀ e ∈ es.eraseIdx i, EOk ρ g.next e)
              rw [run_bind_ok r1]
              exact ⟨w', rfl, r2, r3⟩
            · rename_i hf
              cases hs
              rw [run_bind_ok (run_findKey hd hf w)]
              simp only [toR, Option.map_none]
              obtain ⟨w', r1, r2, r3⟩ := run_setMap (P := P) (clock' := clock) h hg hown hes
              rw [run_bind_ok r1]
              refine ⟨w', rfl, ?_, by trivial⟩
              have : g.set a (.map es clock own) = g := LHeap.ext (fun j => by simp only [LHeap.get_set]; split <;> simp_all) (LHeap.next_set _ _ _)
              rw [← this]; exact r2
            · cases hs
          · cases hs
        · cases hs
      · cases hs
    · cases hs
  · cases hs

end Go.Lm
