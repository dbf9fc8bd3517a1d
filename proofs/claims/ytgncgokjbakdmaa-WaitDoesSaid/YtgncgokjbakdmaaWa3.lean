/-
  waitq's queue: what a thread sleeps on; few sleepers.
-/
import Derived.Test.YtgncgokjbakdmaaWa2
set_option linter.all false
namespace Go.Proofs.Ytgncgokjbakdmaa
open Go.ChangeShapes Go.WideShapes Go.ChangeAt Go.RowKit Go.Lm
set_option linter.unusedSimpArgs false
variable {g g' : LHeap} {q n ms mo nS : Nat} {col : Nat → Option Tag} {on : Int → Option (List Chan)} {sl : Chan → List Int} {mpS : Chan → Option LV} {mpO : Int → Option LV}
theorem WQd.putO (D : WQd g q col on sl n ms mo mpS mpO nS) {t : Int} {V : LV} {a n' : Nat} {l : List Chan} (f : Fr (fun b => b = mo ∨ col b = some (.o t)) g g') (hm : MapIs g' mo intK.k (upd mpO t (some V)) n') (hl : l ≠ [])
    (ho : V.obj = some a) (ha : (g.next ≤ a ∧ a < g'.next) ∨ col a = some (.o t)) (R : Row g' V chanE l) (mi : Mine g' V) (me : ∀ c, t ∈ sl c → c ∈ l) (hn : n' ≤ 64) (hs : l.length ≤ 16) :
    ∃ col', WQd g' q col' (upd on t (some l)) sl n' ms mo mpS (upd mpO t (some V)) nS ∧ FrQ g col g' col' := by
  classical
  have keep : ∀ {b u}, col b = some u → u ≠ .mo → u ≠ .o t → g'.get b = g.get b := fun {b u} h h1 h2 => f.eq b (D.lt b (by rw [h]; simp)) fun hf => by
    rcases hf with rfl | hf
    · rw [D.co] at h; cases h; exact h1 rfl
    · rw [hf] at h; cases h; exact h2 rfl
  have hne : ∀ {b u}, col b = some u → u ≠ .o t → b ≠ a := fun {b u} h h2 e => by
    subst e
    rcases ha with ha | ha
    · have := D.lt b (by rw [h]; simp); omega
    · rw [ha] at h; cases h; exact h2 rfl
  refine ⟨fun b => if b = a then some (.o t) else col b, ⟨(keep D.cq (by simp) (by simp)).trans D.at_, D.mapS.fr (keep D.cs (by simp) (by simp)), hm, ?_, ?_, ?_, fun c' => ?_, fun t' => ?_, fun b hb => ?_, D.nod, fun c' t' ht => ?_, hn, fun t' l' h => ?_⟩, ⟨f.le, fun b hb hc => ?_⟩⟩
  · simp only [if_neg (hne D.cq (by simp)), D.cq]
  · simp only [if_neg (hne D.cs (by simp)), D.cs]
  · simp only [if_neg (hne D.co (by simp)), D.co]
  · rcases D.sls c' with h | ⟨V', a', h1, h2, h3, h4, h5, h6, h7⟩
    · exact .inl h
    · have hk : ∀ b, V'.obj = some b → g'.get b = g.get b := fun b hb => by rw [h3] at hb; cases hb; exact keep h4 (by simp) (by simp)
      exact .inr ⟨V', a', h1, h2, h3, by rw [if_neg (hne h4 (by simp))]; exact h4, h5.fr hk, h6.fr hk, h7.fr hk⟩
  · by_cases htt : t' = t
    · subst htt
      exact .inr ⟨V, l, a, upd_at _ _ _, upd_at _ _ _, hl, ho, if_pos rfl, R, mi⟩
    · rw [upd_ne _ _ htt, upd_ne _ _ htt]
      rcases D.ons t' with h | ⟨V', l', a', h1, h2, h3, h4, h5, h6, h7⟩
      · exact .inl h
      · have hk : ∀ b, V'.obj = some b → g'.get b = g.get b := fun b hb => by rw [h4] at hb; cases hb; exact keep h5 (by simp) (by simpa using htt)
        exact .inr ⟨V', l', a', h1, h2, h3, h4, by rw [if_neg (hne h5 (by simpa using htt))]; exact h5, h6.fr hk, h7.fr hk⟩
  · by_cases e : b = a
    · subst e
      rcases ha with ha | ha
      · exact ha.2
      · exact Nat.lt_of_lt_of_le (D.lt b (by rw [ha]; simp)) f.le
    · rw [if_neg e] at hb
      exact Nat.lt_of_lt_of_le (D.lt b hb) f.le
  · by_cases htt : t' = t
    · subst htt; exact ⟨l, upd_at _ _ _, me c' ht⟩
    · rw [upd_ne _ _ htt]; exact D.mem c' t' ht
  · by_cases htt : t' = t
    · subst htt; rw [upd_at] at h; cases h; exact hs
    · rw [upd_ne _ _ htt] at h; exact D.short t' l' h
  · refine ⟨f.eq b hb fun hf => ?_, ?_⟩
    · rcases hf with rfl | hf
      · rw [D.co] at hc; cases hc
      · rw [hf] at hc; cases hc
    · rw [if_neg]
      · exact hc
      · rintro rfl
        rcases ha with ha | ha
        · omega
        · rw [ha] at hc; cases hc
theorem WQd.delO (D : WQd g q col on sl n ms mo mpS mpO nS) {t : Int} {n' : Nat} (f : Fr (fun b => b = mo) g g') (hm : MapIs g' mo intK.k (upd mpO t none) n') (hn : n' ≤ 64) (hs : ∀ c, t ∉ sl c) :
    WQd g' q col (upd on t none) sl n' ms mo mpS (upd mpO t none) nS ∧ FrQ g col g' col := by
  have keep : ∀ {b u}, col b = some u → u ≠ .mo → g'.get b = g.get b := fun {b u} h h1 => f.eq b (D.lt b (by rw [h]; simp)) fun hf => by
    subst hf
    rw [D.co] at h; cases h; exact h1 rfl
  refine ⟨⟨(keep D.cq (by simp)).trans D.at_, D.mapS.fr (keep D.cs (by simp)), hm, D.cq, D.cs, D.co, fun c' => ?_, fun t' => ?_, fun b hb => Nat.lt_of_lt_of_le (D.lt b hb) f.le, D.nod, fun c' t' ht => ?_, hn, fun t' l' h => ?_⟩, ⟨f.le, fun b hb hc => ⟨f.eq b hb fun hf => ?_, hc⟩⟩⟩
  · rcases D.sls c' with h | ⟨V', a', h1, h2, h3, h4, h5, h6, h7⟩
    · exact .inl h
    · have hk : ∀ b, V'.obj = some b → g'.get b = g.get b := fun b hb => by rw [h3] at hb; cases hb; exact keep h4 (by simp)
      exact .inr ⟨V', a', h1, h2, h3, h4, h5.fr hk, h6.fr hk, h7.fr hk⟩
  · by_cases htt : t' = t
    · subst htt; exact .inl ⟨upd_at _ _ _, upd_at _ _ _⟩
    · rw [upd_ne _ _ htt, upd_ne _ _ htt]
      rcases D.ons t' with h | ⟨V', l', a', h1, h2, h3, h4, h5, h6, h7⟩
      · exact .inl h
      · have hk : ∀ b, V'.obj = some b → g'.get b = g.get b := fun b hb => by rw [h4] at hb; cases hb; exact keep h5 (by simp)
        exact .inr ⟨V', l', a', h1, h2, h3, h4, h5, h6.fr hk, h7.fr hk⟩
  · have htt : t' ≠ t := fun e => by subst e; exact hs c' ht
    rw [upd_ne _ _ htt]; exact D.mem c' t' ht
  · by_cases htt : t' = t
    · subst htt; rw [upd_at] at h; cases h
    · rw [upd_ne _ _ htt] at h; exact D.short t' l' h
  · subst hf
    rw [D.co] at hc; cases hc

theorem few {X : Type} [DecidableEq X] : ∀ (l k : List X), l.Nodup → (∀ x ∈ l, x ∈ k) → l.length ≤ k.length
  | [], _, _, _ => Nat.zero_le _
  | x :: l, k, hd, hs => by
    rw [List.nodup_cons] at hd
    have hx := hs x (by simp)
    have := few l (k.erase x) hd.2 fun y hy => (List.mem_erase_of_ne (fun e => hd.1 (by rw [← e]; exact hy))).2 (hs y (by simp [hy]))
    rw [List.length_erase_of_mem hx] at this
    have := List.length_pos_of_mem hx
    simp only [List.length_cons]
    omega
theorem MapIs.few {κ : Type} [DecidableEq κ] {m n : Nat} {f : κ → LV} {mp : κ → Option LV} (h : MapIs g m f mp n) {l : List κ} (hd : l.Nodup) (hs : ∀ x ∈ l, mp x ≠ none) : l.length ≤ n := by
  obtain ⟨kv, _, h4, rfl⟩ := h
  have := Go.Proofs.Ytgncgokjbakdmaa.few l (kv.map (·.1)) hd fun x hx => by
    have := hs x hx
    rw [← h4 x] at this
    rcases kv_cases kv x with hn | ⟨a, v, s, b, rfl, _⟩
    · exact absurd (look_none hn) this
    · simp
  simpa using this
theorem WQd.few (D : WQd g q col on sl n ms mo mpS mpO nS) (c : Chan) : (sl c).length ≤ 64 :=
  Nat.le_trans (MapIs.few D.mapO (D.nod c) fun t ht hn => by
    obtain ⟨l, hl, _⟩ := D.mem c t ht
    rcases D.ons t with h | ⟨V, l', a, h1, _⟩
    · rw [h.2] at hl; cases hl
    · rw [h1] at hn; cases hn) D.most
end Go.Proofs.Ytgncgokjbakdmaa
