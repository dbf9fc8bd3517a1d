/-
  The logical machine: a deep reading of a program over numbered objects, proved sound once; parts nA to nF.
-/
import Derived.Test.YtfbagndfifibiaaLm6x
set_option linter.all false
/-
  The logical machine, part 10: maps that are ranged over; boxes: what a type's methods keep to themselves; elements that are stored.
-/
namespace Go.Lm

set_option linter.unusedSimpArgs false
variable {P : Program} {g h h' : LHeap} {κ : Type}

/-! ### A map's range -/
structure ItAt (g : LHeap) (m r : Nat) (f : κ → LV) (kv lf : KV κ) : Prop where
  at_ : ∃ clock seen, g.get m = some (.map (encM f kv) clock .ex) ∧ (∀ e ∈ kv, e.2.2 < clock) ∧ g.get r = some (.mapIter (some m) clock seen clock) ∧ lf = kv.filter fun e => !seen.contains e.2.2
  keys : (kv.map (·.1)).Nodup
  stamps : (kv.map (·.2.2)).Nodup
  ne : m ≠ r
/-- A map that is ranged over: what stands at each key, how many there are, which are still to come. -/
def MapIt (g : LHeap) (m r : Nat) (f : κ → LV) (mp : κ → Option LV) (n : Nat) (left : List κ) : Prop := ∃ kv lf, ItAt g m r f kv lf ∧ (∀ k, look kv k = mp k) ∧ kv.length = n ∧ left = lf.map (·.1)
variable {m r n : Nat} {f : κ → LV} {mp : κ → Option LV} {left : List κ}
theorem MapIt.fr (h : MapIt g m r f mp n left) {g' : LHeap} (e : g'.get m = g.get m) (e' : g'.get r = g.get r) : MapIt g' m r f mp n left := by
  obtain ⟨kv, lf, ⟨⟨c, seen, h1, h2, h3, h4⟩, h5, h6, h7⟩, h8⟩ := h
  exact ⟨kv, lf, ⟨⟨c, seen, e.trans h1, h2, e'.trans h3, h4⟩, h5, h6, h7⟩, h8⟩
theorem MapIt.map (h : MapIt g m r f mp n left) : MapIs g m f mp n := by
  obtain ⟨kv, lf, ⟨⟨c, seen, h1, h2, h3, h4⟩, h5, h6, h7⟩, h8, h9, _⟩ := h
  exact ⟨kv, ⟨⟨c, h1, h2⟩, h5, h6⟩, h8, h9⟩
theorem look_mem {kv : KV κ} {k : κ} {v : LV} {s : Nat} (hk : (kv.map (·.1)).Nodup) (h : (k, v, s) ∈ kv) : look kv k = some v := by
  obtain ⟨a, b, rfl⟩ := List.append_of_mem h
  exact look_some (nodup_mid hk).1
theorem look_dom {kv : KV κ} {k : κ} : (look kv k).isSome = true ↔ k ∈ kv.map (·.1) := by
  rcases kv_cases kv k with hn | ⟨a, v, s, b, rfl, hn⟩
  · rw [look_none hn]
    refine ⟨fun h => (by cases h), fun h => ?_⟩
    obtain ⟨e, he, rfl⟩ := List.mem_map.1 h
    exact absurd rfl (hn e he)
  · rw [look_some hn]; simp
/-- The range begins. -/
theorem MapIs.range {t kt et : TypeId} (hu : P.underlying t = some (.map kt et)) (h : MapIs g m f mp n) (hm : m < g.next) :
    ∃ o left, rangeL P t (.map m) g = some (.ptr g.next 0, g.alloc o) ∧ MapIt (g.alloc o) m g.next f mp n left ∧ left.Nodup ∧ left.length = n ∧ ∀ k, k ∈ left ↔ (mp k).isSome = true := by
  obtain ⟨kv, ⟨⟨c, h1, h2⟩, h3, h3'⟩, h4, h5⟩ := h
  have hfl : kv.filter (fun e => !([] : List Nat).contains e.2.2) = kv := List.filter_eq_self.2 fun e _ => by simp
  refine ⟨.mapIter (some m) c [] c, kv.map (·.1), by simp [rangeL, hu, h1], ⟨kv, kv, ⟨⟨c, [], by rw [get_alloc_ne _ _ (by omega)]; exact h1, h2, get_alloc_eq _ _, hfl.symm⟩, h3, h3', by omega⟩, h4, h5, rfl⟩, h3, by simpa using h5, fun k => ?_⟩
  rw [← h4 k]
  exact look_dom.symm
/-- The next one, whichever of those that are left. -/
theorem MapIt.next (h : MapIt g m r f mp n left) {K : LV → LHeap → Prop} (h0 : left = [] → K (.tuple [.bool false]) g)
    (hk : ∀ k v left' o, k ∈ left → mp k = some v → left'.length + 1 = left.length → (∀ k', k' ∈ left' ↔ k' ∈ left ∧ k' ≠ k) → (left.Nodup → left'.Nodup) → MapIt (g.set r o) m r f mp n left' → entryL (.ptr r 0) (g.set r o) = some (.tuple [f k, v]) → K (.tuple [.bool true, f k, v]) (g.set r o)) : nextMapL (.ptr r 0) g K := by
  obtain ⟨kv, lf, ⟨⟨c, seen, h1, h2, h3, h4⟩, h5, h6, h7⟩, h8, h9, h10⟩ := h
  have hfe : ∀ (p : Nat → Bool), (encM f kv).filter (fun e => p e.2.2) = encM f (kv.filter fun e => p e.2.2) := fun p => by
    simp only [encM, List.filter_map]; rfl
  simp only [nextMapL, h3, h1]
  refine ⟨?_, fun he => h0 ?_, fun e he hs => ?_⟩
  · cases hkv : kv with
    | nil => simp [encM]
    | cons x l =>
      have := h2 x (by rw [hkv]; simp)
      simp only [encM, List.map_cons, List.isEmpty_cons, Bool.not_false, Bool.and_true, List.all_cons]
      have : decide (x.2.2 ≥ c) = false := by simp; omega
      simp [this]
  · have hall : (encM f kv).filter (fun e => !seen.contains e.2.2) = [] := by
      rw [List.filter_eq_self.2] at he
      · exact he
      · intro e he
        have hm := (List.mem_filter.1 he).1
        obtain ⟨x, hx, rfl⟩ := List.mem_map.1 hm
        simpa using h2 x hx
    rw [hfe fun s => !seen.contains s] at hall
    rw [h10, h4]
    have : kv.filter (fun e => !seen.contains e.2.2) = [] := List.map_eq_nil_iff.1 hall
    rw [this]; rfl
  · obtain ⟨x, hx, rfl⟩ := List.mem_map.1 he
    obtain ⟨k, v, s⟩ := x
    simp only at hs
    have hlf : (k, v, s) ∈ lf := by rw [h4]; exact List.mem_filter.2 ⟨hx, by rw [hs]; rfl⟩
    have hkeys : ∀ e ∈ kv, e.1 = k → e = (k, v, s) := fun e he hek => by
      obtain ⟨a, b, rfl⟩ := List.append_of_mem hx
      have hn := nodup_mid h5
      rcases List.mem_append.1 he with he | he
      · exact absurd hek (hn.1 e he)
      · rcases List.mem_cons.1 he with rfl | he
        · rfl
        · exact absurd hek (hn.2 e he)
    have hst : ∀ e ∈ kv, e.2.2 = s → e = (k, v, s) := fun e he hes => by
      obtain ⟨a, b, rfl⟩ := List.append_of_mem hx
      rw [List.map_append, List.map_cons, List.nodup_append] at h6
      obtain ⟨_, q2, q3⟩ := h6
      rw [List.nodup_cons] at q2
      rcases List.mem_append.1 he with he | he
      · exact absurd hes (q3 _ (List.mem_map.2 ⟨e, he, rfl⟩) s (by simp))
      · rcases List.mem_cons.1 he with rfl | he
        · rfl
        · exact absurd (List.mem_map.2 ⟨e, he, hes⟩) q2.1
    have hsub : (kv.filter fun e => !(seen ++ [s]).contains e.2.2) = lf.filter fun e => !(e.2.2 == s) := by
      rw [h4, List.filter_filter]
      refine List.filter_congr fun e _ => ?_
      by_cases hq : e.2.2 = s <;> simp [List.contains_eq_mem, not_or, Bool.and_comm, hq]
    have hsp : ∃ a b, lf = a ++ (k, v, s) :: b ∧ (lf.filter fun e => !(e.2.2 == s)) = a ++ b := by
      obtain ⟨a, b, e⟩ := List.append_of_mem hlf
      have hnd : ((lf.map (·.2.2))).Nodup := by rw [h4]; exact h6.sublist (List.filter_sublist.map _)
      rw [e, List.map_append, List.map_cons, List.nodup_append] at hnd
      obtain ⟨_, q2, q3⟩ := hnd
      rw [List.nodup_cons] at q2
      refine ⟨a, b, e, ?_⟩
      rw [e, List.filter_append, List.filter_cons, if_neg (by simp)]
      congr 1
      · exact List.filter_eq_self.2 fun x hx => by have := q3 _ (List.mem_map.2 ⟨x, hx, rfl⟩) s (by simp); simpa using this
      · exact List.filter_eq_self.2 fun x hx => by simpa using fun hxs => q2.1 (List.mem_map.2 ⟨x, hx, hxs⟩)
    obtain ⟨a, b, e1, e2⟩ := hsp
    have hleft : left = a.map (·.1) ++ k :: b.map (·.1) := by rw [h10, e1]; simp
    have hnd : left.Nodup := by rw [h10, h4]; exact h5.sublist (List.filter_sublist.map _)
    have hnd' := hnd
    rw [hleft, List.nodup_append] at hnd'
    obtain ⟨q1, q2, q3⟩ := hnd'
    rw [List.nodup_cons] at q2
    refine hk k v (a.map (·.1) ++ b.map (·.1)) _ (by rw [hleft]; simp) (by rw [← h8 k]; exact look_mem h5 hx) (by rw [hleft]; simp; omega) (fun k' => ?_) (fun _ => ?_) ⟨kv, a ++ b, ⟨⟨c, seen ++ [s], by rw [get_set_ne _ _ h7]; exact h1, h2, get_set_eq _ _ _, by rw [hsub, e2]⟩, h5, h6, h7⟩, h8, h9, by simp⟩ ?_
    · rw [hleft]
      simp only [List.mem_append, List.mem_cons]
      refine ⟨fun h => ?_, fun h => ?_⟩
      · rcases h with h | h
        · exact ⟨.inl h, fun e => q3 _ h k (by simp) e⟩
        · exact ⟨.inr (.inr h), fun e => q2.1 (e ▸ h)⟩
      · rcases h.1 with h' | h' | h'
        · exact .inl h'
        · exact absurd h' h.2
        · exact .inr h'
    · rw [List.nodup_append]
      exact ⟨q1, q2.2, fun x hx y hy => q3 x hx y (List.mem_cons_of_mem _ hy)⟩
    · simp only [entryL, get_set_eq, get_set_ne _ _ h7, h1, List.getLast?_concat, if_true]
      have hfi : (encM f kv).find? (fun e => e.2.2 == s) = some (f k, v, s) := by
        cases hfd : (encM f kv).find? (fun e => e.2.2 == s) with
        | none =>
          have := List.find?_eq_none.1 hfd (f k, v, s) (List.mem_map.2 ⟨(k, v, s), hx, rfl⟩)
          simp at this
        | some y =>
          have hy1 := List.find?_some hfd
          have hy2 := List.mem_of_find?_eq_some hfd
          obtain ⟨e, he, rfl⟩ := List.mem_map.1 hy2
          have := hst e he (by simpa using hy1)
          rw [this]
      rw [hfi]
/-- One that has come already is deleted. -/
theorem MapIt.del {t kt et : TypeId} (K : Key P kt κ) (h : MapIt g m r K.k mp n left) (hu : P.underlying t = some (.map kt et)) (k : κ) (hk : k ∉ left) (ts : List TypeId) :
    ∃ H, builtinL P .delete (t :: ts) [.map m, K.k k] g = some (undefL, H) ∧ MapIt H m r K.k (upd mp k none) (match mp k with | some _ => n - 1 | none => n) left ∧ Fr (fun a => a = m) g H := by
  obtain ⟨kv, lf, ⟨⟨c, seen, h1, h2, h3, h4⟩, h5, h6, h7⟩, h8, h9, h10⟩ := h
  obtain rfl : look kv = mp := funext h8
  have hb : builtinL P .delete (t :: ts) [.map m, K.k k] g = (deleteL P t (.map m) (K.k k) g).map fun g => (undefL, g) := rfl
  rw [hb]
  simp only [deleteL, shape_of hu, K.chk k, if_true, h1]
  rw [if_pos (by decide)]
  rcases kv_cases kv k with hn | ⟨a, w, s, b, rfl, hn⟩
  · rw [find_none K 0 hn]
    refine ⟨g, rfl, ⟨kv, lf, ⟨⟨c, seen, h1, h2, h3, h4⟩, h5, h6, h7⟩, fun k' => ?_, ?_, h10⟩, Fr.refl _ _⟩
    · by_cases hk : k' = k
      · subst hk; rw [upd_at, look_none hn]
      · rw [upd_ne _ _ hk]
    · rw [look_none hn, h9]
  · rw [find_some K 0 hn, Nat.zero_add, Option.map_some, erase_mid]
    have hb := (nodup_mid h5).2
    have hseen : seen.contains s = true := by
      cases hs : seen.contains s with
      | true => rfl
      | false =>
        refine absurd ?_ hk
        rw [h10, h4]
        exact List.mem_map.2 ⟨(k, w, s), List.mem_filter.2 ⟨by simp, by simp only [hs]; rfl⟩, rfl⟩
    refine ⟨_, rfl, ⟨a ++ b, lf, ⟨⟨c, seen, get_set_eq _ _ _, fun e he => h2 e ?_, by rw [get_set_ne _ _ (Ne.symm h7)]; exact h3, ?_⟩, ?_, ?_, h7⟩, fun k' => ?_, ?_, h10⟩, Fr.set _ rfl⟩
    · rcases List.mem_append.1 he with he | he
      · exact List.mem_append.2 (.inl he)
      · exact List.mem_append.2 (.inr (List.mem_cons_of_mem _ he))
    · rw [h4, List.filter_append, List.filter_append, List.filter_cons, if_neg (by simp only [hseen]; decide)]
    · exact h5.sublist ((List.Sublist.append_left (List.sublist_cons_self _ _) _).map _)
    · exact h6.sublist ((List.Sublist.append_left (List.sublist_cons_self _ _) _).map _)
    · by_cases hk : k' = k
      · subst hk
        rw [upd_at, look_none]
        intro e he
        rcases List.mem_append.1 he with he | he
        · exact hn e he
        · exact hb e he
      · rw [upd_ne _ _ hk, look_app, look_app, look_tl (Ne.symm hk)]
    · rw [look_some hn, ← h9]; simp

/-! ### Maps as things -/
def Thing.map (m : Nat) (f : κ → LV) (mp : κ → Option LV) (n : Nat) : Thing := ⟨fun a => a = m, fun h => MapIs h m f mp n, fun _ _ k H => H.fr (k m rfl)⟩
def Thing.mapIt (m r : Nat) (f : κ → LV) (mp : κ → Option LV) (n : Nat) (left : List κ) : Thing := ⟨fun a => a = m ∨ a = r, fun h => MapIt h m r f mp n left, fun _ _ k H => H.fr (k m (.inl rfl)) (k r (.inr rfl))⟩
variable {F : Nat → Prop} {Ts : List Thing}
theorem Sep.newMap (S : Sep F g h Ts) (f : κ → LV) : Sep F g (h.alloc (.map [] 0 .ex)) (Ts ++ [Thing.map h.next f (fun _ => none) 0]) :=
  S.add _ (Fr.alloc _ _) (MapIs.new h f) fun a ha => by cases ha; exact ⟨Nat.le_refl _, Nat.lt_succ_self _⟩
theorem Sep.mset {t kt et : TypeId} (K : Key P kt κ) (S : Sep F g h Ts) (i : Nat) (hi : Ts[i]? = some (Thing.map m K.k mp n)) (hu : P.underlying t = some (.map kt et)) (k : κ) (v : LV) :
    ∃ H, mapSetL P t (.map m) (K.k k) v h = some H ∧ Sep F g H (Ts.set i (Thing.map m K.k (upd mp k (some v)) (match mp k with | some _ => n | none => n + 1))) ∧ Fr (fun a => a = m) h H := by
  obtain ⟨H, e, M, f⟩ := MapIs.set K (S.at i hi) hu k v
  exact ⟨H, e, S.put i hi _ f M fun a ha => ⟨.inl ha, Nat.lt_of_lt_of_le (S.lt i hi ha) f.le⟩, f⟩
theorem Sep.mdel {t kt et : TypeId} (K : Key P kt κ) (S : Sep F g h Ts) (i : Nat) (hi : Ts[i]? = some (Thing.map m K.k mp n)) (hu : P.underlying t = some (.map kt et)) (k : κ) (ts : List TypeId) :
    ∃ H, builtinL P .delete (t :: ts) [.map m, K.k k] h = some (undefL, H) ∧ Sep F g H (Ts.set i (Thing.map m K.k (upd mp k none) (match mp k with | some _ => n - 1 | none => n))) ∧ Fr (fun a => a = m) h H := by
  obtain ⟨H, e, M, f⟩ := MapIs.del K (S.at i hi) hu k ts
  exact ⟨H, e, S.put i hi _ f M fun a ha => ⟨.inl ha, Nat.lt_of_lt_of_le (S.lt i hi ha) f.le⟩, f⟩
theorem Sep.range {t kt et : TypeId} (S : Sep F g h Ts) (i : Nat) (hi : Ts[i]? = some (Thing.map m f mp n)) (hu : P.underlying t = some (.map kt et)) :
    ∃ o left, rangeL P t (.map m) h = some (.ptr h.next 0, h.alloc o) ∧ Sep F g (h.alloc o) (Ts.set i (Thing.mapIt m h.next f mp n left)) ∧ left.Nodup ∧ left.length = n ∧ ∀ k, k ∈ left ↔ (mp k).isSome = true := by
  have hm : m < h.next := S.lt i hi rfl
  obtain ⟨o, left, e, M, nd, hl, hk⟩ := MapIs.range hu (S.at i hi) hm
  refine ⟨o, left, e, S.put i hi _ ((Fr.alloc h o).mono fun _ _ => False.elim) M fun a ha => ?_, nd, hl, hk⟩
  rcases ha with rfl | rfl
  · exact ⟨.inl rfl, Nat.lt_succ_of_lt hm⟩
  · exact ⟨.inr (Nat.le_refl _), Nat.lt_succ_self _⟩
theorem Sep.next (S : Sep F g h Ts) (i : Nat) (hi : Ts[i]? = some (Thing.mapIt m r f mp n left)) {K : LV → LHeap → Prop} (h0 : left = [] → K (.tuple [.bool false]) h)
    (hk : ∀ k v left' h', k ∈ left → mp k = some v → left'.length + 1 = left.length → (∀ k', k' ∈ left' ↔ k' ∈ left ∧ k' ≠ k) → (left.Nodup → left'.Nodup) → Sep F g h' (Ts.set i (Thing.mapIt m r f mp n left')) → entryL (.ptr r 0) h' = some (.tuple [f k, v]) → h'.next = h.next → Fr (fun a => a = r) h h' → K (.tuple [.bool true, f k, v]) h') : nextMapL (.ptr r 0) h K := by
  have M : MapIt h m r f mp n left := S.at i hi
  refine M.next h0 fun k v left' o h1 h2 h3 h4 h5 h6 h7 => hk k v left' _ h1 h2 h3 h4 h5 (S.put i hi _ ((Fr.set (F := fun a => a = r) o rfl).mono fun _ _ e => .inr e) h6 fun a ha => ⟨.inl ha, S.lt i hi ha⟩) h7 rfl (Fr.set _ rfl)
theorem Sep.idel {t kt et : TypeId} (K : Key P kt κ) (S : Sep F g h Ts) (i : Nat) (hi : Ts[i]? = some (Thing.mapIt m r K.k mp n left)) (hu : P.underlying t = some (.map kt et)) (k : κ) (hk : k ∉ left) (ts : List TypeId) :
    ∃ H, builtinL P .delete (t :: ts) [.map m, K.k k] h = some (undefL, H) ∧ Sep F g H (Ts.set i (Thing.mapIt m r K.k (upd mp k none) (match mp k with | some _ => n - 1 | none => n) left)) ∧ Fr (fun a => a = m) h H := by
  obtain ⟨H, e, M, f⟩ := MapIt.del K (S.at i hi) hu k hk ts
  exact ⟨H, e, S.put i hi _ (f.mono fun _ _ e => .inl e) M fun a ha => ⟨.inl ha, Nat.lt_of_lt_of_le (S.lt i hi ha) f.le⟩, f⟩
/-- The range is over. -/
theorem Sep.ranged (S : Sep F g h Ts) (i : Nat) (hi : Ts[i]? = some (Thing.mapIt m r f mp n left)) : Sep F g h (Ts.set i (Thing.map m f mp n)) :=
  S.put i hi _ (Fr.refl _ _) (MapIt.map (S.at i hi)) fun a ha => by cases ha; exact ⟨.inl (.inl rfl), S.lt i hi (.inl rfl)⟩

theorem set_at {Ts : List Thing} {i : Nat} {T U : Thing} (h : Ts[i]? = some T) : (Ts.set i U)[i]? = some U := by
  have := (List.getElem?_eq_some_iff.1 h).1
  rw [List.getElem?_set_self this]
theorem set_other {Ts : List Thing} {i j : Nat} {T U : Thing} (h : Ts[j]? = some T) (hij : i ≠ j) : (Ts.set i U)[j]? = some T := by rw [List.getElem?_set_ne hij]; exact h
theorem last_at {Ts : List Thing} {T : Thing} : (Ts ++ [T])[Ts.length]? = some T := by simp
theorem set_last {Ts : List Thing} {T U : Thing} : (Ts ++ [T]).set Ts.length U = Ts ++ [U] := by
  rw [List.set_append_right _ _ (Nat.le_refl _), Nat.sub_self]; rfl
/-- A map's range, with what stands behind each round kept in one place of the list. -/
theorem Sep.set2 {Ts : List Thing} {i : Nat} {T U : Thing} (S : Sep F g h ((Ts.set i T).set i U)) : Sep F g h (Ts.set i U) := by rwa [List.set_set] at S
theorem Sep.perm {Ts Us : List Thing} (S : Sep F g h Ts) (p : Ts.Perm Us) : Sep F g h Us :=
  ⟨S.fr, fun T hT => S.ok T (p.mem_iff.2 hT), fun T hT => S.lo T (p.mem_iff.2 hT), S.dis.perm p fun {_ _} hxy a ha hb => hxy a hb ha⟩
/-! ### The frame -/
def ownL (Ts : List Thing) : Nat → Prop := fun a => ∃ T ∈ Ts, T.own a
theorem Sep.self {Ts Zs : List Thing} (S : Sep F g h (Ts ++ Zs)) : Sep (ownL Ts) h h Ts :=
  ⟨Fr.refl _ _, fun T hT => S.ok T (List.mem_append.2 (.inl hT)), fun T hT a ha => ⟨.inl ⟨T, hT, ha⟩, (S.lo T (List.mem_append.2 (.inl hT)) a ha).2⟩, (List.pairwise_append.1 S.dis).1⟩
/-- What a call makes of some things leaves the others as they were. -/
theorem Sep.frame {Ts Ts' Zs : List Thing} (S : Sep F g h (Ts ++ Zs)) (S' : Sep (ownL Ts) h h' Ts') : Sep F g h' (Ts' ++ Zs) := by
  have hp := List.pairwise_append.1 S.dis
  have out : ∀ U ∈ Zs, ∀ a, U.own a → a < h.next ∧ ¬ ownL Ts a := fun U hU a ha => ⟨(S.lo U (List.mem_append.2 (.inr hU)) a ha).2, fun ⟨T, hT, hTa⟩ => hp.2.2 T hT U hU a hTa ha⟩
  refine ⟨S.fr.trans' S'.fr fun a ha ⟨T, hT, hTa⟩ => ?_, fun U hU => ?_, fun U hU a ha => ?_, ?_⟩
  · rcases (S.lo T (List.mem_append.2 (.inl hT)) a hTa).1 with h1 | h1
    · exact h1
    · omega
  · rcases List.mem_append.1 hU with hU | hU
    · exact S'.ok U hU
    · exact U.up h h' (fun a ha => S'.fr.eq a (out U hU a ha).1 (out U hU a ha).2) (S.ok U (List.mem_append.2 (.inr hU)))
  · rcases List.mem_append.1 hU with hU | hU
    · have := S'.lo U hU a ha
      refine ⟨?_, this.2⟩
      rcases this.1 with ⟨T, hT, hTa⟩ | h1
      · exact (S.lo T (List.mem_append.2 (.inl hT)) a hTa).1
      · exact .inr (Nat.le_trans S.fr.le h1)
    · have := S.lo U (List.mem_append.2 (.inr hU)) a ha
      exact ⟨this.1, Nat.lt_of_lt_of_le this.2 S'.fr.le⟩
  · rw [List.pairwise_append]
    refine ⟨S'.dis, hp.2.1, fun T hT U hU a ha hb => ?_⟩
    have h1 := out U hU a hb
    rcases (S'.lo T hT a ha).1 with h2 | h2
    · exact h1.2 h2
    · omega
/-! ### Boxes -/
/-- A thing of many things: D tells which, S holds all their objects. -/
def Thing.box {α : Type} (D : α → List Thing → Prop) (S : Nat → Prop) (x : α) : Thing :=
  ⟨S, fun h => ∃ Ts : List Thing, D x Ts ∧ (∀ T ∈ Ts, T.ok h) ∧ (∀ T ∈ Ts, ∀ a, T.own a → S a) ∧ Ts.Pairwise fun (T U : Thing) => ∀ a : Nat, T.own a → ¬ U.own a,
    fun _ _ k ⟨Ts, h1, h2, h3, h4⟩ => ⟨Ts, h1, fun T hT => T.up _ _ (fun a ha => k a (h3 T hT a ha)) (h2 T hT), h3, h4⟩⟩
/-- What a method leaves of a box. -/
def After {α : Type} (D : α → List Thing → Prop) (S : Nat → Prop) (g h : LHeap) (x : α) : Prop := ∃ S', (Thing.box D S' x).ok h ∧ Fr S g h ∧ ∀ a, S' a → (S a ∨ g.next ≤ a) ∧ a < h.next
variable {α : Type} {D : α → List Thing → Prop} {S : Nat → Prop} {x : α}
theorem box_open (B : (Thing.box D S x).ok g) (lt : ∀ a, S a → a < g.next) : ∃ Ts, D x Ts ∧ Sep S g g Ts := by
  obtain ⟨Ts, h1, h2, h3, h4⟩ := B
  exact ⟨Ts, h1, Fr.refl _ _, h2, fun T hT a ha => ⟨.inl (h3 T hT a ha), lt a (h3 T hT a ha)⟩, h4⟩
theorem Sep.after {Ts : List Thing} (S' : Sep S g h Ts) (hD : D x Ts) : After D S g h x :=
  ⟨fun a => ∃ T ∈ Ts, T.own a, ⟨Ts, hD, S'.ok, fun T hT a ha => ⟨T, hT, ha⟩, S'.dis⟩, S'.fr, fun a ⟨T, hT, ha⟩ => S'.lo T hT a ha⟩
theorem After.same (B : (Thing.box D S x).ok h) (f : Fr noF g h) (lt : ∀ a, S a → a < g.next) : After D S g h x := ⟨S, B, f.mono fun _ _ => False.elim, fun a ha => ⟨.inl ha, Nat.lt_of_lt_of_le (lt a ha) f.le⟩⟩
theorem After.fr {h : LHeap} (A : After D S g h x) : Fr S g h := by obtain ⟨_, _, f, _⟩ := A; exact f
/-- A call of a method, where one stands. -/
theorem Sep.call {x' : α} (Sp : Sep F g h Ts) (i : Nat) (hi : Ts[i]? = some (Thing.box D S x)) (A : After D S h h' x') : ∃ S', Sep F g h' (Ts.set i (Thing.box D S' x')) := by
  obtain ⟨S', B, f, nw⟩ := A
  exact ⟨S', Sp.put i hi _ f B nw⟩
theorem Sep.boxlt (Sp : Sep F g h Ts) (i : Nat) (hi : Ts[i]? = some (Thing.box D S x)) : ∀ a, S a → a < h.next := fun a ha => Sp.lt i hi (a := a) ha
/-- A new box, out of the things of which it is made. -/
theorem Sep.boxed {Us : List Thing} (Sp : Sep F g h (Ts ++ Us)) (hD : D x Us) : ∃ S', Sep F g h (Ts ++ [Thing.box D S' x]) := by
  have hp := List.pairwise_append.1 Sp.dis
  refine ⟨fun a => ∃ T ∈ Us, T.own a, Sp.fr, fun T hT => ?_, fun T hT a ha => ?_, ?_⟩
  · rcases List.mem_append.1 hT with hT | hT
    · exact Sp.ok T (List.mem_append.2 (.inl hT))
    · rw [List.mem_singleton.1 hT]
      exact ⟨Us, hD, fun T hT => Sp.ok T (List.mem_append.2 (.inr hT)), fun T hT a ha => ⟨T, hT, ha⟩, hp.2.1⟩
  · rcases List.mem_append.1 hT with hT | hT
    · exact Sp.lo T (List.mem_append.2 (.inl hT)) a ha
    · rw [List.mem_singleton.1 hT] at ha
      obtain ⟨U, hU, ha⟩ := ha
      exact Sp.lo U (List.mem_append.2 (.inr hU)) a ha
  · rw [List.pairwise_append]
    refine ⟨hp.1, List.pairwise_singleton _ _, fun T hT U hU a ha hb => ?_⟩
    rw [List.mem_singleton.1 hU] at hb
    obtain ⟨V, hV, hb⟩ := hb
    exact hp.2.2 T hT V hV a ha hb
end Go.Lm

/-
  The logical machine, part 11: elements that are stored; elements that are deleted.
-/
namespace Go.Lm

set_option linter.unusedSimpArgs false
variable {P : Program} {g h h' : LHeap} {X : Type} {E : Enc X} {V U : LV} {l m : List X} {F : Nat → Prop} {Ts : List Thing}

theorem flat_take (E : Enc X) : ∀ (l : List X) (k : Nat), (l.take k).flatMap E.f = (l.flatMap E.f).take (k * E.e)
  | [], k => by simp
  | x :: l, 0 => by simp
  | x :: l, k + 1 => by
    simp only [List.take_succ_cons, List.flatMap_cons, flat_take E l k]
    rw [List.take_append, E.len, show (k + 1) * E.e - E.e = k * E.e by rw [Nat.succ_mul]; omega, List.take_of_length_le (l := E.f x) (by rw [E.len, Nat.succ_mul]; omega)]
theorem flat_drop (E : Enc X) : ∀ (l : List X) (k : Nat), (l.drop k).flatMap E.f = (l.flatMap E.f).drop (k * E.e)
  | [], k => by simp
  | x :: l, 0 => by simp
  | x :: l, k + 1 => by
    simp only [List.drop_succ_cons, flat_drop E l k, List.flatMap_cons]
    rw [show (k + 1) * E.e = (E.f x).length + k * E.e by rw [E.len, Nat.succ_mul]; omega, ← List.drop_drop, List.drop_left]
theorem flat_put {l : List X} {k : Nat} (hk : k < l.length) (y : X) : (l.set k y).flatMap E.f = splice (l.flatMap E.f) (k * E.e) (E.f y) := by
  have h1 : l.set k y = l.take k ++ y :: l.drop (k + 1) := by rw [List.set_eq_take_append_cons_drop, if_pos hk]
  rw [h1, List.flatMap_append, List.flatMap_cons, flat_take, flat_drop]
  unfold splice
  rw [E.len, ← Nat.succ_mul, List.append_assoc]
theorem splice_mid {vs ws new : List LV} {off o n : Nat} (h : (vs.drop off).take n = ws) (hn : off + n ≤ vs.length) (ho : o + new.length ≤ n) : ((splice vs (off + o) new).drop off).take n = splice ws o new := by
  subst h
  have hl : (vs.take (off + o)).length = off + o := by rw [List.length_take]; omega
  unfold splice
  rw [List.append_assoc, List.drop_append_of_le_length (by omega), List.drop_take, Nat.add_sub_cancel_left, List.take_take, Nat.min_eq_left (by omega), List.drop_take, List.drop_drop,
    List.take_append, List.take_of_length_le (l := (vs.drop off).take o) (by rw [List.length_take, List.length_drop]; omega), List.length_take, List.length_drop, Nat.min_eq_left (by omega),
    List.take_append, List.take_of_length_le (l := new) (by omega), List.append_assoc]
  congr 3
  · omega
  · congr 1; omega
/-- An element is stored. -/
theorem Row.sta (h : Row g V E l) (hm : Mine g V) {k : Nat} (hk : k < l.length) (y : X) :
    ∃ a off vs own, V.at E.e k = .ptr a off ∧ V.obj = some a ∧ storeCellsL a off (E.f y) g = some (g.set a (.cells (splice vs off (E.f y)) own)) ∧ Row (g.set a (.cells (splice vs off (E.f y)) own)) V E (l.set k y) ∧
      (Grow g V E.e → Grow (g.set a (.cells (splice vs off (E.f y)) own)) V E.e) ∧ Mine (g.set a (.cells (splice vs off (E.f y)) own)) V := by
  rcases h with ⟨rfl, _⟩ | ⟨a, off, cap, vs, own, rfl, hg, hv, hl⟩
  · simp at hk
  · obtain ⟨vs', own', hg', ho⟩ := hm
    rw [hg] at hg'
    cases hg'
    have h2 : (k + 1) * E.e ≤ l.length * E.e := Nat.mul_le_mul_right _ hk
    have h3 : (k + 1) * E.e = k * E.e + E.e := Nat.succ_mul _ _
    have hfit : off + k * E.e + (E.f y).length ≤ vs.length := by rw [E.len]; omega
    refine ⟨a, off + k * E.e, vs, own, rfl, rfl, ?_, ?_, ?_, ⟨_, own, get_set_eq _ _ _, ho⟩⟩
    · simp only [storeCellsL, hg]
      rw [if_pos ⟨ho, hfit, List.all_eq_true.2 fun v hv => E.cell y v hv⟩]
    · refine Row.of (get_set_eq _ _ _) (by simp) ?_ (by rw [splice_len hfit]; simpa using hl)
      rw [flat_put hk, List.length_set]
      exact splice_mid hv hl (by rw [E.len]; omega)
    · intro hG
      cases cap with
      | ex c =>
        refine ⟨hG.1, fun hn => ?_⟩
        obtain ⟨vs', own', h1, h2, h3⟩ := hG.2 hn
        rw [hg] at h1
        cases h1
        exact ⟨_, own, get_set_eq _ _ _, ho, by rw [splice_len hfit]; exact h3⟩
      | op e' =>
        obtain ⟨h0, vs', h1⟩ := hG
        rw [hg] at h1
        cases h1
        exact ⟨h0, _, get_set_eq _ _ _⟩
theorem store_agg' (a off : Nat) (x : X) (g : LHeap) : storeV E.e (.ptr a off) (.agg (E.f x)) g = storeCellsL a off (E.f x) g := by
  show (if (E.f x).length = E.e then _ else _) = _
  rw [if_pos (E.len x)]
  rfl
theorem Sep.sta (S : Sep F g h Ts) (i : Nat) (hi : Ts[i]? = some (Thing.vec E V l)) {k : Nat} (hk : k < l.length) (y : X) :
    ∃ h', storeV E.e (V.at E.e k) (.agg (E.f y)) h = some h' ∧ Sep F g h' (Ts.set i (Thing.vec E V (l.set k y))) ∧ h'.next = h.next ∧ Fr (fun a => V.obj = some a) h h' := by
  obtain ⟨hR, hG, hM⟩ := S.at i hi
  obtain ⟨a, off, vs, own, e1, e2, e3, e4, e5, e6⟩ := hR.sta hM hk y
  have ff : Fr (fun a => V.obj = some a) h (h.set a (.cells (splice vs off (E.f y)) own)) := Fr.set _ e2
  exact ⟨_, by rw [e1, store_agg']; exact e3, S.put i hi _ ff ⟨e4, e5 hG, e6⟩ fun b hb => ⟨.inl hb, S.lt i hi hb⟩, rfl, ff⟩

theorem take_snoc {A : Type} {l : List A} {k : Nat} {x : A} (h : l[k]? = some x) : l.take (k + 1) = l.take k ++ [x] := by
  rw [List.take_add_one, h]; rfl
theorem Sep.clone' (S : Sep F g h Ts) (R : Row h V E l) (hlt : ∀ a, V.obj = some a → a < h.next) {bytes : Nat} (hb : l.length * bytes * 2 ≤ 2 ^ 48 ∨ (l.length * 5 + 2048) * bytes ≤ 2 ^ 50) :
    ∃ V' h', appendL E.e bytes (.slice h.next 0 0 (.ex 0)) V (h.alloc (.cells [] .ex)) = some (V', h') ∧ Sep F g h' (Ts ++ [Thing.vec E V' l]) ∧ V'.cell = true ∧ Fr noF h h' ∧ (∀ a, V'.obj = some a → h.next ≤ a ∧ a < h'.next) := by
  obtain ⟨V', h', e, O, mi, f⟩ := Vec.clone' (bytes := bytes) R hlt hb
  exact ⟨V', h', e, S.vec V' O.row O.grow mi f O.lo, O.row.cell, f, O.lo⟩
theorem Sep.nilsL {A : Type} (E : Enc X) : ∀ (l : List A) {Ts : List Thing}, Sep F g h Ts → Sep F g h (Ts ++ l.map fun _ => Thing.vec E .nils [])
  | [], Ts, S => by simpa using S
  | a :: l, Ts, S => by
    have := Sep.nilsL E l (S.nils E)
    simpa using this
/-- Several cells of an element. -/
theorem Row.fla (R : Row h V E l) {k : Nat} {x : X} (hx : l[k]? = some x) : ∃ a off, V.at E.e k = .ptr a off ∧ (∀ (j : Nat) (v : LV), (E.f x)[j]? = some v → cellO none (off + j) (h.get a) = some v) ∧ ∀ j n : Nat, j + n ≤ E.e → cellO (some n) (off + j) (h.get a) = some (.agg (((E.f x).drop j).take n)) := by
  obtain ⟨a, off, e, hf⟩ := R.fl hx
  refine ⟨a, off, e, hf, fun j n hj => ?_⟩
  have hi := (List.getElem?_eq_some_iff.1 hx).1
  rcases R with ⟨rfl, _⟩ | ⟨b, o, cap, vs, own, rfl, hg, hv, hl⟩
  · simp at hi
  · cases e
    rw [hg]
    have h2 : (k + 1) * E.e ≤ l.length * E.e := Nat.mul_le_mul_right _ hi
    have h3 : (k + 1) * E.e = k * E.e + E.e := Nat.succ_mul _ _
    have h1 := flat_at E hx
    rw [cells_o _ _ _ _ (by omega), ← h1, ← hv]
    congr 2
    rw [List.drop_take, List.drop_take, List.drop_drop, List.drop_take, List.drop_drop, List.take_take, List.take_take]
    congr 1
    omega
/-- The same cells, read otherwise. -/
theorem Row.conv {Y : Type} {E' : Enc Y} {l' : List Y} (R : Row h V E l) (he : E'.e = E.e) (hf : l'.flatMap E'.f = l.flatMap E.f) (hl : l'.length = l.length) : Row h V E' l' := by
  rcases R with ⟨rfl, hV⟩ | ⟨a, off, cap, vs, own, rfl, hg, hv, hl'⟩
  · exact .inl ⟨List.length_eq_zero_iff.1 hl, hV⟩
  · exact .inr ⟨a, off, cap, vs, own, by rw [hl], hg, by rw [hl, he, hf]; exact hv, by rw [hl, he]; exact hl'⟩
/-! ### slices.Delete -/
theorem rep_flat (z : X) (k : Nat) : (List.replicate k (E.f z)).flatten = (List.replicate k z).flatMap E.f := by
  induction k with
  | zero => rfl
  | succ k ih => simp only [List.replicate_succ, List.flatten_cons, List.flatMap_cons, ih]
theorem del_row {bytes : Nat} {t et : TypeId} {zv : LV} {z : X} (R : Row g V E l) (G : Grow g V E.e) (M : Mine g V) (hu : P.underlying t = some (.slice et)) (hz : zeroL P et = some zv) (hzz : zv.cells = E.f z) {i j : Nat} (hij : i < j) (hj : j ≤ l.length)
    (hb : l.length * bytes * 2 ≤ 2 ^ 48 ∨ (l.length * 5 + 2048) * bytes ≤ 2 ^ 50) :
    ∃ U0 U1 U2 W H U3 H', cutL E.e V (some i) (some j) (some l.length) (limL V g) = some U0 ∧ cutL E.e V none (some i) none (limL V g) = some U1 ∧ cutL E.e V (some j) none none (limL V g) = some U2 ∧ U2.isStr = false ∧ appendL E.e bytes U1 U2 g = some (W, H) ∧
      (∀ g', lenL P t W g' = some (.int .i64 ((i + (l.length - j) : Nat) : Int))) ∧ cutL E.e W (some ((i + (l.length - j) : Nat) : Int)) (some l.length) none (limL W H) = some U3 ∧ clearL P t U3 H = some H' ∧
      Row H' W E (l.take i ++ l.drop j) ∧ Grow H' W E.e ∧ Mine H' W ∧ (∀ a, W.obj = some a → V.obj = some a) ∧ Fr (fun a => V.obj = some a) g H' ∧ H'.next = g.next := by
  have hE := E.pos
  have R2 := R.cut G.capd (i := j) (j := l.length) (by omega) (Nat.le_refl _) (some (j : Int)) none rfl rfl
  obtain ⟨U2, eU2, RU2, _, _, _⟩ := R2
  rw [List.take_of_length_le (by rw [List.length_drop]; omega)] at RU2
  have hdl : (l.drop j).length = l.length - j := by simp
  rcases R with ⟨rfl, _⟩ | ⟨a, off, cap, vs, own, rfl, hg, hv, hl⟩
  · simp at hj; omega
  obtain ⟨vs', own', hg', ho⟩ := M
  rw [hg] at hg'
  cases hg'
  have e0 : ((i : Int)).toNat = i := by omega
  have hlim : ∀ e', cap = .op e' → e' = E.e ∧ own = .op := fun e' h => by
    subst h
    obtain ⟨h1, vs2, h2⟩ := G
    rw [hg] at h2
    cases h2
    exact ⟨h1, rfl⟩
  have hU0 : ∃ U0, cutL E.e (.slice a off l.length cap) (some (i : Int)) (some (j : Int)) (some (l.length : Int)) (limL (.slice a off l.length cap) g) = some U0 := by
    simp only [cutL, Option.getD_some, Option.isSome_some]
    rw [if_pos ⟨by omega, by omega⟩]
    cases cap with
    | ex c =>
      have : l.length ≤ c := G.1
      simp only [cutS]
      rw [if_pos ⟨trivial, by omega, by omega⟩]
      exact ⟨_, rfl⟩
    | op e' =>
      obtain ⟨rfl, _⟩ := hlim e' rfl
      simp only [cutS]
      rw [if_pos ⟨trivial, by omega, by omega, trivial⟩]
      exact ⟨_, rfl⟩
  obtain ⟨U0, eU0⟩ := hU0
  have eU1 : cutL E.e (.slice a off l.length cap) none (some (i : Int)) none (limL (.slice a off l.length cap) g) = some (.slice a off i cap) := by
    simp only [cutL, Option.getD_none, Option.getD_some, Option.isSome_some]
    rw [if_pos ⟨by omega, by omega⟩]
    cases cap with
    | ex c =>
      have : l.length ≤ c := G.1
      simp only [cutS]
      rw [if_pos (by omega)]
      have e1 : ((c : Int) - 0).toNat = c := by omega
      have e2 : ((i : Int) - 0).toNat = i := by omega
      rw [e1, e2]
      split <;> simp
    | op e' =>
      obtain ⟨rfl, _⟩ := hlim e' rfl
      simp only [cutS]
      rw [if_pos ⟨by omega, trivial⟩, if_pos (by omega)]
      have e2 : ((i : Int) - 0).toNat = i := by omega
      rw [e2]
      simp
  have hmul : i * E.e + (l.length - j) * E.e ≤ l.length * E.e := by rw [← Nat.add_mul]; exact Nat.mul_le_mul_right _ (by omega)
  have hsum : (i + (l.length - j)) * E.e = i * E.e + (l.length - j) * E.e := Nat.add_mul _ _ _
  have hsrc1 : srcCells E.e (.slice a off i cap) g = some (i, (vs.drop off).take (i * E.e)) := by
    simp only [srcCells, hg]
    rw [if_pos (by omega)]
  have hi1 : (vs.drop off).take (i * E.e) = (l.take i).flatMap E.f := by
    rw [flat_take, ← hv, List.take_take, Nat.min_eq_left (Nat.mul_le_mul_right _ (by omega))]
  have happ : ∃ vs1 H, vs1.length = vs.length ∧ appendL E.e bytes (.slice a off i cap) U2 g = some (.slice a off (i + (l.length - j)) cap, H) ∧ H.get a = some (.cells vs1 own) ∧ Fr (fun b => b = a) g H ∧ H.next = g.next ∧ (vs1.drop off).take ((i + (l.length - j)) * E.e) = (l.take i ++ l.drop j).flatMap E.f := by
    have hs2 := RU2.src
    rw [hdl] at hs2
    have hstr := RU2.not_str
    simp only [appendL, hs2, hsrc1]
    rw [if_neg (by simp [LV.isStr])]
    by_cases hn : l.length - j = 0
    · rw [if_pos hn]
      refine ⟨vs, g, rfl, by simp [hn], hg, Fr.refl _ _, rfl, ?_⟩
      rw [hn, Nat.add_zero, hi1, List.drop_of_length_le (by omega), List.append_nil]
    · rw [if_neg hn, if_neg (fun hh => hh (by
        have h1 : (i + (l.length - j)) * bytes * 2 ≤ l.length * bytes * 2 := Nat.mul_le_mul_right _ (Nat.mul_le_mul_right _ (by omega))
        have h2 : ((i + (l.length - j)) * 5 + 2048) * bytes ≤ (l.length * 5 + 2048) * bytes := Nat.mul_le_mul_right _ (by omega)
        omega))]
      have hnl : ((l.drop j).flatMap E.f).length = (l.length - j) * E.e := by rw [flat_len, hdl]
      have hfit : off + i * E.e + ((l.drop j).flatMap E.f).length ≤ vs.length := by rw [hnl]; omega
      have hst : storeCellsL a (off + i * E.e) ((l.drop j).flatMap E.f) g = some (g.set a (.cells (splice vs (off + i * E.e) ((l.drop j).flatMap E.f)) own)) := by
        simp only [storeCellsL, hg]
        rw [if_pos ⟨ho, hfit, List.all_eq_true.2 (flat_cell E _)⟩]
      refine ⟨splice vs (off + i * E.e) ((l.drop j).flatMap E.f), _, splice_len hfit, ?_, get_set_eq _ _ _, Fr.set _ rfl, rfl, ?_⟩
      · simp only [hg]
        cases cap with
        | ex c =>
          have : l.length ≤ c := G.1
          simp only
          rw [if_pos (by omega), hst]
        | op e' =>
          obtain ⟨rfl, hop⟩ := hlim e' rfl
          simp only
          rw [if_neg (by simp [hop]), if_pos (by omega), hst]
      · rw [hsum, ← hnl, splice_take hfit rfl, hi1, List.flatMap_append]
  obtain ⟨vs1, H, hvl, eA, hgH, fH, nH, hc1⟩ := happ
  have hmul2 : (i + (l.length - j)) * E.e + (l.length - (i + (l.length - j))) * E.e = l.length * E.e := by rw [← Nat.add_mul]; congr 1; omega
  have eU3 : ∃ c, cutL E.e (.slice a off (i + (l.length - j)) cap) (some ((i + (l.length - j) : Nat) : Int)) (some (l.length : Int)) none (limL (.slice a off (i + (l.length - j)) cap) H) = some (.slice a (off + (i + (l.length - j)) * E.e) (l.length - (i + (l.length - j))) c) := by
    simp only [cutL, Option.getD_some, Option.isSome_some]
    rw [if_pos ⟨by omega, by omega⟩]
    have e1 : (((l.length : Nat) : Int) - ((i + (l.length - j) : Nat) : Int)).toNat = l.length - (i + (l.length - j)) := by omega
    have e2 : (((i + (l.length - j) : Nat) : Int)).toNat = i + (l.length - j) := by omega
    cases cap with
    | ex c =>
      have : l.length ≤ c := G.1
      simp only [cutS]
      rw [if_pos (by omega), if_neg (by omega), e1, e2]
      exact ⟨_, rfl⟩
    | op e' =>
      obtain ⟨rfl, hop⟩ := hlim e' rfl
      subst hop
      have hlimv : l.length ≤ limL (.slice a off (i + (l.length - j)) (.op E.e)) H := by
        simp only [limL, hgH]
        rw [Nat.le_div_iff_mul_le hE, hvl]
        omega
      simp only [cutS]
      rw [if_pos ⟨by omega, trivial⟩, if_pos (by omega), e1, e2]
      exact ⟨_, rfl⟩
  obtain ⟨c3, eU3⟩ := eU3
  have hzl : ((List.replicate (l.length - (i + (l.length - j))) z).flatMap E.f).length = (l.length - (i + (l.length - j))) * E.e := by rw [flat_len]; simp
  have hfit3 : off + (i + (l.length - j)) * E.e + ((List.replicate (l.length - (i + (l.length - j))) z).flatMap E.f).length ≤ vs1.length := by rw [hzl, hvl]; omega
  refine ⟨U0, _, U2, _, H, _, H.set a (.cells (splice vs1 (off + (i + (l.length - j)) * E.e) ((List.replicate (l.length - (i + (l.length - j))) z).flatMap E.f)) own), eU0, eU1, eU2, RU2.not_str, eA, fun g' => len_slice hu _ _ _ _ _, eU3, ?_, ?_, ?_, ⟨_, own, get_set_eq _ _ _, ho⟩, fun b hb => hb, ?_, nH⟩
  · simp only [clearL, hu, hz]
    rw [if_neg (by omega), hzz, rep_flat]
    simp only [storeCellsL, hgH]
    rw [if_pos ⟨ho, hfit3, List.all_eq_true.2 (flat_cell E _)⟩]
  · have hll : (l.take i ++ l.drop j).length = i + (l.length - j) := by simp; omega
    refine Row.of (get_set_eq _ _ _) hll.symm ?_ (by rw [splice_len hfit3, hll, hvl]; omega)
    rw [hll, ← hc1]
    unfold splice
    rw [List.append_assoc, List.drop_append_of_le_length (by rw [List.length_take]; omega), List.take_append_of_le_length (by rw [List.length_drop, List.length_take]; omega), List.drop_take, List.take_take]
    congr 1
    omega
  · cases cap with
    | ex c =>
      refine ⟨by have := G.1; omega, fun _ => ⟨_, own, get_set_eq _ _ _, ho, ?_⟩⟩
      rw [splice_len hfit3, hvl]
      by_cases hlc : l.length < c
      · obtain ⟨vs2, own2, h1, h2, h3⟩ := G.2 hlc
        rw [hg] at h1
        cases h1
        exact h3
      · have := G.1
        have : c = l.length := by omega
        rw [this]; exact hl
    | op e' =>
      obtain ⟨rfl, hop⟩ := hlim e' rfl
      subst hop
      exact ⟨rfl, _, get_set_eq _ _ _⟩
  · exact (fH.mono fun b _ e => by subst e; rfl).trans (Fr.set (F := fun b => (LV.slice a off l.length cap).obj = some b) _ rfl)
end Go.Lm

/-
  The logical machine, part 12: a part of a row, and what is copied into it.
-/
namespace Go.Lm

set_option linter.unusedSimpArgs false
variable {P : Program} {g h h' : LHeap} {X : Type} {E : Enc X} {V U W : LV} {l m : List X} {F : Nat → Prop}
/-- W is the part of V that begins at i and has n elements. -/
def Part (e : Nat) (V : LV) (k n : Nat) (W : LV) : Prop := ∃ a off len c c', V = .slice a off len c ∧ W = .slice a (off + k * e) n c'
theorem Part.obj {e k n : Nat} (h : Part e V k n W) : W.obj = V.obj := by obtain ⟨a, off, len, c, c', rfl, rfl⟩ := h; rfl
theorem Row.cutP (h : Row g V E l) (hc : Capd V E.e) {k n : Nat} (hn : 0 < n) (hj : k + n ≤ l.length) :
    ∃ W, cutL E.e V (some (k : Int)) (some ((k + n : Nat) : Int)) none (limL V g) = some W ∧ Part E.e V k n W := by
  rcases h with ⟨rfl, _⟩ | ⟨a, off, cap, vs, own, rfl, hg, hv, hl⟩
  · simp at hj; omega
  have e1 : (((k + n : Nat) : Int) - k).toNat = n := by omega
  have e2 : ((k : Int)).toNat = k := by omega
  cases cap with
  | ex c =>
    have hcc : l.length ≤ c := hc
    refine ⟨.slice a (off + k * E.e) n (.ex ((c : Int) - k).toNat), ?_, _, _, _, _, _, rfl, rfl⟩
    simp only [cutL, Option.getD_some]
    rw [if_pos ⟨by omega, by omega⟩]
    simp only [cutS]
    rw [if_pos (by omega), e1, e2, if_neg (by omega)]
  | op e' =>
    have he : e' = E.e := hc
    subst he
    refine ⟨.slice a (off + k * E.e) n (.op E.e), ?_, _, _, _, _, _, rfl, rfl⟩
    simp only [cutL, Option.getD_some, Option.isSome_some]
    rw [if_pos ⟨by omega, by omega⟩]
    simp only [cutS]
    rw [if_pos ⟨by omega, trivial⟩, if_pos (by omega), e1, e2]
theorem Part.row {k n : Nat} (p : Part E.e V k n W) (h : Row g V E l) (hn : 0 < n) (hj : k + n ≤ l.length) : Row g W E ((l.drop k).take n) := by
  obtain ⟨a, off, len, c, c', rfl, rfl⟩ := p
  rcases h with ⟨rfl, _⟩ | ⟨a', off', cap, vs, own, hV, hg, hv, hl⟩
  · simp at hj; omega
  cases hV
  have hlt : ((l.drop k).take n).length = n := by rw [List.length_take, List.length_drop]; omega
  have hk : k * E.e + n * E.e ≤ l.length * E.e := by rw [← Nat.add_mul]; exact Nat.mul_le_mul_right _ hj
  refine Row.of hg hlt.symm ?_ (by rw [hlt]; omega)
  rw [hlt, flat_take, flat_drop, ← hv, List.drop_take, List.take_take, List.drop_drop]
  congr 1
  omega
theorem flat_mid (E : Enc X) {l m : List X} {k : Nat} (hk : k + m.length ≤ l.length) : (l.take k ++ m ++ l.drop (k + m.length)).flatMap E.f = splice (l.flatMap E.f) (k * E.e) (m.flatMap E.f) := by
  rw [List.flatMap_append, List.flatMap_append, flat_take, flat_drop, splice, flat_len, Nat.add_mul]
theorem Part.copy {k : Nat} (p : Part E.e V k m.length W) (h : Row g V E l) (hG : Grow g V E.e) (hm : Mine g V) (hU : Row g U E m) (hj : k + m.length ≤ l.length) :
    ∃ H, copyL E.e W U g = some (.int .i64 m.length, H) ∧ Row H V E (l.take k ++ m ++ l.drop (k + m.length)) ∧ Grow H V E.e ∧ Mine H V ∧ Fr (fun a => V.obj = some a) g H ∧ H.next = g.next := by
  obtain ⟨a, off, len, c, c', rfl, rfl⟩ := p
  rcases h with ⟨rfl, hV⟩ | ⟨a', off', cap, vs, own, hV, hg, hv, hl⟩
  · rcases hV with h | ⟨_, _, _, _, _, h⟩ <;> cases h
  cases hV
  obtain ⟨vs', own', hg', ho⟩ := hm
  rw [hg] at hg'
  cases hg'
  have hfl := flat_len E m
  have hk : k * E.e + m.length * E.e ≤ l.length * E.e := by rw [← Nat.add_mul]; exact Nat.mul_le_mul_right _ hj
  have hfit : off + k * E.e + (m.flatMap E.f).length ≤ vs.length := by rw [hfl]; omega
  have hll : (l.take k ++ m ++ l.drop (k + m.length)).length = l.length := by simp; omega
  refine ⟨g.set a (.cells (splice vs (off + k * E.e) (m.flatMap E.f)) own), ?_, ?_, ?_, ⟨_, own, get_set_eq _ _ _, ho⟩, Fr.set _ rfl, rfl⟩
  · simp only [copyL, hU.src, Nat.min_self, storeCellsL, hg]
    rw [List.take_of_length_le (by rw [hfl]; exact Nat.le_refl _), if_pos ⟨ho, hfit, List.all_eq_true.2 fun v hv => flat_cell E m v hv⟩]
  · refine Row.of (get_set_eq _ _ _) hll.symm ?_ (by rw [splice_len hfit, hll]; exact hl)
    rw [hll, flat_mid E hj]
    exact splice_mid hv hl (by rw [hfl]; omega)
  · cases c with
    | ex c =>
      refine ⟨hG.1, fun hn => ?_⟩
      obtain ⟨vs', own', h1, h2, h3⟩ := hG.2 hn
      rw [hg] at h1
      cases h1
      exact ⟨_, own, get_set_eq _ _ _, ho, by rw [splice_len hfit]; exact h3⟩
    | op e' =>
      obtain ⟨h0, vs', h1⟩ := hG
      rw [hg] at h1
      cases h1
      exact ⟨h0, _, get_set_eq _ _ _⟩
theorem Sep.copy {Ts : List Thing} (S : Sep F g h Ts) (i : Nat) (hi : Ts[i]? = some (Thing.vec E V l)) {k : Nat} (p : Part E.e V k m.length W) (hU : Row h U E m) (hj : k + m.length ≤ l.length) :
    ∃ H, copyL E.e W U h = some (.int .i64 m.length, H) ∧ Sep F g H (Ts.set i (Thing.vec E V (l.take k ++ m ++ l.drop (k + m.length)))) ∧ H.next = h.next ∧ Fr (fun a => V.obj = some a) h H := by
  obtain ⟨hR, hG, hM⟩ := S.at i hi
  obtain ⟨H, e1, R, G, M, f, n⟩ := p.copy hR hG hM hU hj
  exact ⟨H, e1, S.put i hi _ f ⟨R, G, M⟩ fun b hb => ⟨.inl hb, by rw [n]; exact S.lt i hi hb⟩, n, f⟩
theorem Sep.mset' {κ : Type} {Ts : List Thing} {m n : Nat} {mp : κ → Option LV} {t kt et : TypeId} (K : Key P kt κ) (S : Sep F g h Ts) (i : Nat) (hi : Ts[i]? = some (Thing.map m K.k mp n)) (hu : P.underlying t = some (.map kt et)) (k : κ) (v : LV) :
    ∃ H n', mapSetL P t (.map m) (K.k k) v h = some H ∧ Sep F g H (Ts.set i (Thing.map m K.k (upd mp k (some v)) n')) ∧ Fr (fun a => a = m) h H := by
  obtain ⟨H, e, S, f⟩ := S.mset K i hi hu k v
  exact ⟨H, _, e, S, f⟩
theorem Sep.mdel' {κ : Type} {Ts : List Thing} {m n : Nat} {mp : κ → Option LV} {t kt et : TypeId} (K : Key P kt κ) (S : Sep F g h Ts) (i : Nat) (hi : Ts[i]? = some (Thing.map m K.k mp n)) (hu : P.underlying t = some (.map kt et)) (k : κ) (ts : List TypeId) :
    ∃ H n', builtinL P .delete (t :: ts) [.map m, K.k k] h = some (undefL, H) ∧ Sep F g H (Ts.set i (Thing.map m K.k (upd mp k none) n')) ∧ Fr (fun a => a = m) h H := by
  obtain ⟨H, e, S, f⟩ := S.mdel K i hi hu k ts
  exact ⟨H, _, e, S, f⟩
/-- What a call of a method leaves, set into what its caller has. -/
theorem Sep.callF {T : Thing} {S : Nat → Prop} {Ts' Zs : List Thing} (Sp : Sep F g h (T :: Zs)) (hT : T.own = S) (S' : Sep S h h' Ts') : Sep F g h' (Ts' ++ Zs) := by
  have Sp' : Sep F g h ([T] ++ Zs) := Sp
  refine Go.Lm.Sep.frame Sp' ?_
  have e : ownL [T] = S := by
    funext a
    rw [← hT]
    exact propext ⟨fun ⟨U, hU, ha⟩ => by rw [List.mem_singleton.1 hU] at ha; exact ha, fun ha => ⟨T, List.mem_singleton.2 rfl, ha⟩⟩
  rw [e]; exact S'
/-- The last thing takes another one's place. -/
theorem Sep.move {Ts : List Thing} {T T' : Thing} {i : Nat} (S : Sep F g h (Ts ++ [T'])) (hi : Ts[i]? = some T) : Sep F g h (Ts.set i T') := by
  obtain ⟨hil, hie⟩ := List.getElem?_eq_some_iff.1 hi
  have e1 : Ts = Ts.take i ++ T :: Ts.drop (i + 1) := by rw [← hie, List.getElem_cons_drop, List.take_append_drop]
  have e2 : Ts.set i T' = Ts.take i ++ T' :: Ts.drop (i + 1) := by
    rw [List.set_eq_take_append_cons_drop, if_pos hil]
  rw [e2]
  have p : (Ts ++ [T']).Perm (Ts.take i ++ T' :: (T :: Ts.drop (i + 1))) := by
    conv => lhs; rw [e1]
    rw [List.append_assoc]
    exact List.Perm.append_left _ List.perm_append_comm
  exact (S.perm p).sub (List.Sublist.append (List.Sublist.refl _) (.cons₂ _ (.cons _ (List.Sublist.refl _))))
end Go.Lm

/-
  The logical machine: a law's call, with what was handed in beside it.
-/
namespace Go.Lm

variable {P : Program} {W : World}

/-- As 'law_calls'; what is handed in stands beside its reading. -/
theorem law_calls_at {H : Type} {enc : TypeId × Value → H} {n base : Nat} {f : FuncId} {ts : List TypeId} {args : Array Value} {ds : List (DataW H)} {ps : List MemPlace} (hp : ts.all (plainTy P n) = true)
    (hd : DataW.TrodAll enc P W 0 (fun _ => true) true ts args.toList ds ps) (hwt : (DataW.weightsEach P ts ds).all (· ≤ reachBytes) = true) (hv : ∀ (j : Nat) t v, ts[j]? = some t → args[j]? = some v → Value.okWide P W .any base t v)
    (h : ∀ g xs ρ, (∀ i o, g.get i = some o → o.mine = false) → ShpArgs P g n ts xs → toVs ρ xs = args.toList → Ok P f xs g fun v _ => v = .bool true) :
    Calls P f args W fun e W' => e = .returned (.bool true) ∧ RowKit.Below W.heap.size W W' := by
  obtain ⟨ρ, g, xs, G, e, o, s⟩ := import_args (W := W) (keep := fun b => b < W.heap.size) ts args.toList ds ps ⟨fun _ => 0, fun _ => 0, fun _ => 0, fun _ => none⟩ (emp 0) (fun t ht => List.all_eq_true.1 hp t ht) hd (fun k hk => of_decide_eq_true (List.all_eq_true.1 hwt k hk))
    (fun j t v ht hv' => hv j t v ht (by simpa using hv')) (rel_emp W _ 0) (fun i o hi => by simp [emp] at hi)
  have := (h g xs ρ G.ro s e).enter G.rel o fun v g' hv => hv
  rw [e] at this
  simpa using this
/-- How long a slice's data are. -/
theorem slice_data {H : Type} {enc : TypeId × Value → H} {t e : TypeId} {v : Value} {d : DataW H} {ps : List MemPlace} (hd : DataW.Trod enc P W 0 (fun _ => true) true t v d ps) (ht : P.underlying t = some (.slice e))
    {ρ : Ren} {X : Type} {g : LHeap} {V : LV} {E : Enc X} {l : List X} (hV : V.toV ρ = v) (R : Row g V E l) : l = [] ∨ ∃ es rest, d = .slice es rest ∧ es.length = l.length := by
  obtain ⟨m, hm⟩ := hd
  rcases R with ⟨rfl, _⟩ | ⟨a, off, cap, vs, own, rfl, _⟩
  · exact .inl rfl
  subst hV
  have hc : (LV.toV ρ (.slice a off l.length cap)).cells.toList = [LV.toV ρ (.slice a off l.length cap)] := by cases cap <;> rfl
  rw [hc] at hm
  have hs : ∃ p c, LV.toV ρ (.slice a off l.length cap) = .slice (some p) l.length c := by cases cap <;> exact ⟨_, _, rfl⟩
  obtain ⟨p, c, hs⟩ := hs
  rw [hs] at hm
  rcases DataW.trod_slice ht hm with ⟨h, _⟩ | ⟨a', len, cap', elems, rest, m', _, hcs, hx, _, _, _, hlen, _⟩
  · simp at h
  · simp only [List.cons.injEq, and_true, Value.slice.injEq] at hcs
    obtain ⟨_, rfl, _⟩ := hcs
    simp only [Prod.mk.injEq] at hx
    exact .inr ⟨_, _, hx.1, by rw [List.length_map, hlen]⟩
end Go.Lm

/-
  The logical machine: ranges over functions; their records as things.
-/
namespace Go.Lm

variable {P : Program} {g h h' : LHeap} {F : Nat → Prop} {Ts : List Thing} {a : Nat} {r : LLoop} {s : LoopState} {p : Option Code}

def loopO (r : LLoop) (s : LoopState) (p : Option Code) : LObj := .loop { r with state := s, pending := p }
def Thing.loop (a : Nat) (r : LLoop) (s : LoopState) (p : Option Code) : Thing := ⟨fun b => b = a, fun h => h.get a = some (loopO r s p), fun _ _ k e => (k a rfl).trans e⟩
theorem range_i {fid : FuncId} {first caps : List LV} {Rd : Nat → List LV → LHeap → (LV → LHeap → Prop) → Prop} {N : LHeap → Prop} {E : Nat → LHeap → Prop} {R : LHeap → Prop}
    (h : ∀ r : LLoop, r.state = .ready → r.pending = none → (∀ a zs h p K, h.get a = some (loopO r .ready p) → Rd a zs h K → Round P a zs h K) →
      Ok P fid (first ++ [.yield g.next] ++ caps) (g.alloc (.loop r)) fun _ g' => leaveP g.next g' N E R) : rangeP P (.func (.func fid) first caps) g Rd N E R := h
theorem Sep.newLoop (S : Sep F g h Ts) (hs : r.state = .ready) (hp : r.pending = none) : Sep F g (h.alloc (.loop r)) (Ts ++ [Thing.loop h.next r .ready none]) :=
  S.add _ (Fr.alloc _ _) (by
    show (h.alloc (.loop r)).get h.next = _
    rw [get_alloc_eq, loopO]
    cases r
    simp only at hs hp
    subst hs; subst hp; rfl) fun a ha => by cases ha; exact ⟨Nat.le_refl _, Nat.lt_succ_self _⟩
theorem Sep.loopAt (S : Sep F g h Ts) (i : Nat) (hi : Ts[i]? = some (Thing.loop a r s p)) : h.get a = some (loopO r s p) := S.at i hi
theorem Sep.turnLoop (S : Sep F g h Ts) (i : Nat) (hi : Ts[i]? = some (Thing.loop a r s p)) (s' : LoopState) (p' : Option Code) : Sep F g (h.set a (loopO r s' p')) (Ts.set i (Thing.loop a r s' p')) :=
  S.put i hi _ (Fr.set _ rfl) (get_set_eq _ _ _) fun b hb => ⟨.inl hb, S.lt i hi hb⟩
/-- A round begins. -/
theorem Sep.begin (S : Sep F g h Ts) (i : Nat) (hi : Ts[i]? = some (Thing.loop a r .ready p)) {K : LHeap → Prop} (k : ∀ h', Sep F g h' (Ts.set i (Thing.loop a r .busy p)) → Fr (fun b => b = a) h h' → h'.next = h.next → K h') : beginP a h K := by
  unfold beginP
  rw [S.loopAt i hi]
  exact ⟨rfl, k _ (S.turnLoop i hi .busy p) (Fr.set _ rfl) rfl⟩
/-- A round ends. -/
theorem Sep.end_ (S : Sep F g h Ts) (i : Nat) (hi : Ts[i]? = some (Thing.loop a r s p)) (j : Option Code) {K : LV → LHeap → Prop} (k : ∀ h', Sep F g h' (Ts.set i (Thing.loop a r (if j.isNone then .ready else .done) j)) → Fr (fun b => b = a) h h' → h'.next = h.next → K (.bool j.isNone) h') : endP a j h K := by
  unfold endP
  rw [S.loopAt i hi]
  exact k _ (S.turnLoop i hi _ j) (Fr.set _ rfl) rfl
theorem Sep.drop (S : Sep F g h Ts) (i : Nat) (hi : Ts[i]? = some (Thing.loop a r s p)) : Sep F g (h.erase a) (Ts.eraseIdx i) := by
  have hT := List.mem_of_getElem? hi
  have fr : Fr (fun b => b = a) h (h.erase a) := ⟨Nat.le_refl _, fun b _ hb => by rw [LHeap.get_erase, if_neg hb]⟩
  have hlo := (S.lo _ hT a rfl).1
  have mem : ∀ T ∈ Ts.eraseIdx i, ∃ j, Ts[j]? = some T ∧ j ≠ i := fun T hT => by
    obtain ⟨j, hj, hji⟩ := List.mem_eraseIdx_iff_getElem?.1 hT
    exact ⟨j, hji, hj⟩
  refine ⟨S.fr.trans' fr fun b hb e => ?_, fun T hT => ?_, fun T hT b hb => ?_, S.dis.sublist (List.eraseIdx_sublist _ _)⟩
  · subst e
    rcases hlo with h | h
    · exact h
    · omega
  · obtain ⟨j, hj, hji⟩ := mem T hT
    refine T.up h _ (fun b hb => ?_) (S.at j hj)
    rw [LHeap.get_erase, if_neg]
    intro e
    subst e
    exact S.apart hj hi hji hb rfl
  · obtain ⟨j, hj, hji⟩ := mem T hT
    exact S.lo T (List.mem_of_getElem? hj) b hb
/-- By which jump a range is left. -/
def jumpM (p : Option Code) (N : LHeap → Prop) (E : Nat → LHeap → Prop) (R : LHeap → Prop) (h : LHeap) : Prop :=
  match p with
  | none => N h
  | some (.exit id) => E id h
  | some .ret => R h
  | _ => False
/-- A range over a function has ended. -/
theorem Sep.leave (S : Sep F g h Ts) (i : Nat) (hi : Ts[i]? = some (Thing.loop a r s p)) (hs : s ≠ .busy) {N : LHeap → Prop} {E : Nat → LHeap → Prop} {R : LHeap → Prop}
    (k : ∀ h', Sep F g h' (Ts.eraseIdx i) → Fr (fun b => b = a) h h' → h'.next = h.next → jumpM p N E R h') : leaveP a h N E R := by
  unfold leaveP
  rw [S.loopAt i hi]
  have fr : Fr (fun b => b = a) h (h.erase a) := ⟨Nat.le_refl _, fun b _ hb => by rw [LHeap.get_erase, if_neg hb]⟩
  exact ⟨hs, k _ (S.drop i hi) fr rfl⟩
theorem callV_y {C : CallSem} (a : Nat) (zs : List LV) (h : LHeap) (K : LV → LHeap → Prop) : callV P C (.yield a) zs h K = Round P a zs h K := nr rfl
theorem she : (∀ a K g, endK a K (.bool true) g = endP a none g K) ∧ (∀ a K g, endK a K (.bool false) g = endP a (some .ret) g K) ∧ (∀ a K k (n : Int) g, endK a K (.int k n) g = endP a (some (.exit n.toNat)) g K) :=
  ⟨fun _ _ _ => rfl, fun _ _ _ => rfl, fun _ _ _ _ _ => rfl⟩
theorem shl : (∀ (x y : List LV), [] ++ x ++ y = x ++ y) ∧ (∀ (x : LV) (xs ys : List LV), (x :: xs) ++ ys = x :: (xs ++ ys)) ∧ (∀ ys : List LV, [] ++ ys = ys) := ⟨fun _ _ => rfl, fun _ _ _ => rfl, fun _ => rfl⟩
end Go.Lm

/-
  The logical machine: bytes of a memory; a span of them.
-/
namespace Go.Lm

set_option linter.unusedSimpArgs false
variable {P : Program} {g h h' : LHeap} {F : Nat → Prop} {Ts : List Thing} {a off n : Nat} {bs : List Int}

abbrev B8 (n : Int) : LV := .int .u8 n
theorem byte_flat (bs : List Int) : bs.flatMap byteE.f = bs.map B8 := by
  induction bs with
  | nil => rfl
  | cons b bs ih => rw [List.flatMap_cons, ih]; rfl
def putB (bs : List Int) (off : Nat) (new : List Int) : List Int := bs.take off ++ new ++ bs.drop (off + new.length)
theorem putB_len {new : List Int} (h : off + new.length ≤ bs.length) : (putB bs off new).length = bs.length := by simp [putB]; omega
theorem putB_splice (bs : List Int) (off : Nat) (new : List Int) : splice (bs.map B8) off (new.map B8) = (putB bs off new).map B8 := by
  simp [splice, putB, List.map_take, List.map_drop]
theorem putB_get {new : List Int} (h : off + new.length ≤ bs.length) (k : Nat) : (putB bs off new)[k]? = if off ≤ k ∧ k < off + new.length then new[k - off]? else bs[k]? := by
  unfold putB
  by_cases h1 : k < off
  · rw [if_neg (by omega), List.append_assoc, List.getElem?_append_left (by rw [List.length_take]; omega), List.getElem?_take_of_lt h1]
  · by_cases h2 : k < off + new.length
    · rw [if_pos ⟨by omega, h2⟩, List.append_assoc, List.getElem?_append_right (by rw [List.length_take]; omega), List.length_take, Nat.min_eq_left (by omega), List.getElem?_append_left (by omega)]
    · rw [if_neg (by omega), List.getElem?_append_right (by rw [List.length_append, List.length_take]; omega), List.length_append, List.length_take, Nat.min_eq_left (by omega), List.getElem?_drop]
      congr 1; omega
/-- A span of a memory's bytes. -/
theorem span_row (hg : h.get a = some (.cells (bs.map B8) .ex)) (c : Cap) (hl : off + n ≤ bs.length) : Row h (.slice a off n c) byteE ((bs.drop off).take n) := by
  have hlen : ((bs.drop off).take n).length = n := by rw [List.length_take, List.length_drop]; omega
  refine Row.of hg hlen.symm ?_ (by rw [hlen, List.length_map]; show off + n * 1 ≤ _; omega)
  rw [hlen, byte_flat, List.map_take, List.map_drop]
  show List.take (n * 1) _ = _
  rw [Nat.mul_one]
theorem span_clear {t e : TypeId} (hu : P.underlying t = some (.slice e)) (hz : zeroL P e = some (B8 0)) (hg : h.get a = some (.cells (bs.map B8) .ex)) (c : Cap) (hl : off + n ≤ bs.length) :
    clearL P t (.slice a off n c) h = some (if n = 0 then h else h.set a (.cells ((putB bs off (List.replicate n 0)).map B8) .ex)) := by
  simp only [clearL, hu, hz]
  by_cases h0 : n = 0
  · rw [if_pos h0, if_pos h0]
  · rw [if_neg h0, if_neg h0]
    have e : (List.replicate n (LV.cells (B8 0))).flatten = (List.replicate n (0 : Int)).map B8 := by
      rw [List.map_replicate]
      clear hl h0
      induction n with
      | zero => rfl
      | succ n ih => rw [List.replicate_succ, List.flatten_cons, ih, List.replicate_succ]; rfl
    rw [e]
    simp only [storeCellsL, hg]
    rw [if_pos ⟨by decide, by simp; omega, by simp [LV.cell]⟩, putB_splice]
theorem cut3_span {lim : Nat} {len lo hi : Int} (h0 : 0 ≤ lo) (h1 : lo < hi) (h2 : hi ≤ len) (h3 : (n : Int) = len) : cutL 1 (.slice a 0 n (.ex n)) (some lo) (some hi) (some hi) lim = some (.slice a lo.toNat (hi - lo).toNat (.ex (hi - lo).toNat)) := by
  simp only [cutL, Option.getD_some, Option.isSome_some]
  rw [if_pos ⟨h0, by omega⟩]
  simp only [cutS]
  rw [if_pos ⟨trivial, by omega, by omega⟩, if_neg (by omega), Nat.zero_add, Nat.mul_one]
end Go.Lm
