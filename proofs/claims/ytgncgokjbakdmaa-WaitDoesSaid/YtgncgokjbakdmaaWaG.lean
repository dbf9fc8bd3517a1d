/-
  waitq and its reference, plain: what is moved; threads in order.
-/
import Derived.Test.YtgncgokjbakdmaaWaF
set_option linter.all false
namespace Go.Proofs.Ytgncgokjbakdmaa
open Go.ChangeShapes Go.WideShapes Go.ChangeAt Go.RowKit Go.Lm
set_option linter.unusedSimpArgs false
set_option maxRecDepth 10000
section
variable {on on0 : Int → Option (List Chan)} {sl : Chan → List Int} {s : List Seat}
theorem AQ.tid (A : AQ on sl s) {t : Int} {c : Chan} {k k' : Int} (h : (t, c, k) ∈ s) (h' : (t, c, k') ∈ s) : k = k' := by
  obtain ⟨l, h1, h2, h3⟩ := (A.mem _ _ _).1 h
  obtain ⟨l', h1', h2', h3'⟩ := (A.mem _ _ _).1 h'
  rw [h1] at h1'; cases h1'
  have a1 := List.getElem?_eq_some_iff.1 h3
  have a2 := List.getElem?_eq_some_iff.1 h3'
  have := nd_inj (A.le t l h1).2 a1.1 a2.1 (by rw [a1.2, a2.2])
  omega
/-- One thread is moved. -/
theorem AQ.move {X Y : List Seat} {t : Int} {a b : Chan} {k : Int} (A : AQ on sl (X ++ (t, a, k) :: Y)) (hab : a ≠ b) (hb : b ∉ (on t).getD []) :
    AQ (mv1 a b ⟨on, sl⟩ t).on (mv1 a b ⟨on, sl⟩ t).sl (X ++ Y ++ [(t, b, k)]) := by
  have hin : (t, a, k) ∈ X ++ (t, a, k) :: Y := by simp
  obtain ⟨l, h1, h2, h3⟩ := (A.mem _ _ _).1 hin
  have nd0 := A.nd
  have hXY : ∀ q, q ∈ X ++ Y ↔ q ∈ X ++ (t, a, k) :: Y ∧ q ≠ (t, a, k) := by
    intro q
    rw [List.nodup_append, List.nodup_cons] at nd0
    obtain ⟨n1, ⟨n2, n3⟩, n4⟩ := nd0
    constructor
    · intro h
      rcases List.mem_append.1 h with h | h
      · exact ⟨by simp [h], fun e => n4 _ h _ (by rw [← e]; exact List.mem_cons_self ..) e⟩
      · exact ⟨by simp [h], fun e => n2 (e ▸ h)⟩
    · rintro ⟨h, hne⟩
      rcases List.mem_append.1 h with h | h
      · exact List.mem_append_left _ h
      · exact List.mem_append_right _ ((List.mem_cons.1 h).resolve_left hne)
  have hlt : k.toNat < l.length := (List.getElem?_eq_some_iff.1 h3).1
  have ndl := (A.le t l h1).2
  obtain ⟨k2, i1, i2⟩ := idxOf_at l a (List.mem_of_getElem? h3)
  have hkk : k2 = k.toNat := nd_inj ndl (List.getElem?_eq_some_iff.1 i2).1 hlt (by rw [(List.getElem?_eq_some_iff.1 i2).2, (List.getElem?_eq_some_iff.1 h3).2])
  rw [h1, Option.getD_some] at hb
  have hon : (mv1 a b ⟨on, sl⟩ t).on = upd on t (some (l.set k.toNat b)) := by
    show upd on t (some (((on t).getD []).set (idxOf ((on t).getD []) a).toNat b)) = _
    rw [h1, Option.getD_some, i1, Int.toNat_natCast, hkk]
  have hsl : (mv1 a b ⟨on, sl⟩ t).sl = upd (upd sl a ((sl a).filter fun x => !(x == t))) b (sl b ++ [t]) := rfl
  rw [hon, hsl]
  have hnb : ∀ k', (t, b, k') ∉ X ++ (t, a, k) :: Y := fun k' h => by
    obtain ⟨l', q1, q2, q3⟩ := (A.mem _ _ _).1 h
    rw [h1] at q1; cases q1
    exact hb (List.mem_of_getElem? q3)
  refine ⟨?_, fun t' c k' => ?_, fun c => ?_, fun t' => ?_, fun t' l' h => ?_⟩
  · rw [List.nodup_append]
    refine ⟨?_, by simp, fun x hx y hy e => ?_⟩
    · have : (X ++ (t, a, k) :: Y).Nodup := A.nd
      exact this.sublist (by simp)
    · rw [List.mem_singleton] at hy
      subst e; subst hy
      exact hnb k ((hXY _).1 hx).1
  · rw [List.mem_append, hXY, A.mem, List.mem_singleton]
    by_cases e : t' = t
    · subst e
      rw [upd_at, h1]
      constructor
      · rintro (⟨⟨l', q1, q2, q3⟩, hne⟩ | h)
        · cases q1
          refine ⟨_, rfl, q2, ?_⟩
          rw [List.getElem?_set_ne, q3]
          intro ek
          apply hne
          have : k' = k := by omega
          subst this
          rw [h3] at q3; cases q3; rfl
        · cases h
          exact ⟨_, rfl, h2, by rw [List.getElem?_set_self hlt]⟩
      · rintro ⟨l', q1, q2, q3⟩
        cases q1
        by_cases ek : k' = k
        · subst ek
          rw [List.getElem?_set_self hlt] at q3; cases q3
          exact .inr rfl
        · rw [List.getElem?_set_ne (by omega)] at q3
          exact .inl ⟨⟨l, rfl, q2, q3⟩, fun e => ek (by cases e; rfl)⟩
    · rw [upd_ne _ _ e]
      constructor
      · rintro (⟨h, _⟩ | h)
        · exact h
        · cases h; exact absurd rfl e
      · intro h
        exact .inl ⟨h, fun e' => e (by cases e'; rfl)⟩
  · have base : ∀ c, sl c = slS (X ++ (t, a, k) :: Y) c := A.sl
    have sp : ∀ (P Q : List Seat) c, slS (P ++ Q) c = slS P c ++ slS Q c := fun P Q c => by unfold slS; rw [List.filter_append, List.map_append]
    have one : ∀ (x : Int) (c' : Chan) (k' : Int) (Q : List Seat) c, slS ((x, c', k') :: Q) c = (if c' = c then [x] else []) ++ slS Q c := fun x c' k' Q c => by
      unfold slS
      rw [List.filter_cons]
      by_cases e : c' = c
      · simp [e]
      · simp [e]
    have z : ∀ c, slS [] c = [] := fun _ => rfl
    rw [sp, sp, one, z, List.append_nil]
    by_cases e : c = b
    · subst e
      rw [upd_at, if_pos rfl, base, sp, one, if_neg hab]; simp
    · rw [upd_ne _ _ e, if_neg (fun h => e h.symm), List.append_nil]
      by_cases e2 : c = a
      · subst e2
        rw [upd_at, base, sp, one, if_pos rfl, List.filter_append, List.filter_append]
        have no : ∀ (Z : List Seat), (∀ q ∈ Z, q ∈ X ++ Y) → (slS Z c).filter (fun x => !(x == t)) = slS Z c := fun Z hZ => by
          rw [List.filter_eq_self]
          intro x hx
          unfold slS at hx
          obtain ⟨⟨x', c', k'⟩, hq, rfl⟩ := List.mem_map.1 hx
          obtain ⟨hq1, hq2⟩ := List.mem_filter.1 hq
          have hq2 : c' = c := by simpa using hq2
          subst hq2
          have hm := (hXY _).1 (hZ _ hq1)
          show (!(x' == t)) = true
          by_cases ex : x' = t
          · subst ex
            have := A.tid hm.1 hin
            subst this
            exact absurd rfl hm.2
          · simpa using ex
        rw [no X fun q hq => List.mem_append_left _ hq, no Y fun q hq => List.mem_append_right _ hq]
        simp
      · rw [upd_ne _ _ e2, base, sp, one, if_neg (fun h => e2 h.symm)]; simp
  · by_cases e : t' = t
    · subst e; rw [upd_at]; intro h
      have := congrArg (fun o => (o.getD []).length) h
      simp at this
      subst this; simp at hlt
    · rw [upd_ne _ _ e]; exact A.ne t'
  · by_cases e : t' = t
    · subst e; rw [upd_at] at h; cases h
      refine ⟨by rw [List.length_set]; exact (A.le t' l h1).1, ?_⟩
      rw [List.nodup_iff_pairwise_ne, List.pairwise_iff_getElem]
      intro x y hx hy hxy
      rw [List.length_set] at hx hy
      rw [List.getElem_set, List.getElem_set]
      have hbx : ∀ (z : Nat) (hz : z < l.length), l[z] ≠ b := fun z hz e => hb (e ▸ List.getElem_mem hz)
      by_cases e1 : k.toNat = x
      · rw [if_pos e1, if_neg (by omega)]; exact fun h => hbx y hy h.symm
      · rw [if_neg e1]
        by_cases e2 : k.toNat = y
        · rw [if_pos e2]; exact hbx x hx
        · rw [if_neg e2]; exact (List.pairwise_iff_getElem.1 ndl) x y hx hy hxy
    · rw [upd_ne _ _ e] at h; exact A.le t' l' h
/-- What the reference moves. -/
def pickS (on0 : Int → List Chan) (a b : Chan) (p : Seat) : Bool := decide (p.2.1 = a) && !decide (b ∈ on0 p.1)
def mvR (on0 : Int → List Chan) (a b : Chan) (n : Int) : List Seat → Int → List Seat × List Seat × Int
  | [], m => ([], [], m)
  | p :: R, m => if pickS on0 a b p = true ∧ m < n then ((mvR on0 a b n R (m + 1)).1, (p.1, b, p.2.2) :: (mvR on0 a b n R (m + 1)).2.1, (mvR on0 a b n R (m + 1)).2.2)
      else (p :: (mvR on0 a b n R m).1, (mvR on0 a b n R m).2.1, (mvR on0 a b n R m).2.2)
theorem mvR_full (o : Int → List Chan) (a b : Chan) (n : Int) : ∀ (R : List Seat) (m : Int), n ≤ m → mvR o a b n R m = (R, [], m)
  | [], _, _ => rfl
  | p :: R, m, h => by
    rw [mvR, if_neg (by rintro ⟨_, h'⟩; omega), mvR_full o a b n R m h]
theorem mvR_all {a b : Chan} (hab : a ≠ b) (n : Int) (o : Int → List Chan) : ∀ (R L B : List Seat) (S : QS) (m : Int), AQ S.on S.sl (L ++ R ++ B) → (∀ t ∈ slS R a, (S.on t).getD [] = o t) →
    AQ (mvAll a b n (slS R a) S m).1.on (mvAll a b n (slS R a) S m).1.sl (L ++ (mvR o a b n R m).1 ++ (B ++ (mvR o a b n R m).2.1)) ∧ (mvAll a b n (slS R a) S m).2 = (mvR o a b n R m).2.2
  | [], L, B, S, m, A, _ => by
    show AQ S.on S.sl _ ∧ _
    simp only [mvR, List.append_nil]
    exact ⟨by simpa using A, rfl⟩
  | (t, c, k) :: R, L, B, S, m, A, hS => by
    by_cases hc : c = a
    · subst hc
      have e1 : slS ((t, c, k) :: R) c = t :: slS R c := by unfold slS; simp
      rw [e1] at hS ⊢
      rw [mvAll]
      by_cases hn : n ≤ m
      · rw [if_pos hn, mvR_full o c b n _ m hn, List.append_nil]
        exact ⟨A, rfl⟩
      rw [if_neg hn]
      have ht := hS t (List.mem_cons_self ..)
      by_cases hb : b ∈ (S.on t).getD []
      · rw [if_pos hb, mvR, if_neg (by rintro ⟨h, _⟩; rw [ht] at hb; simp [pickS, hb] at h)]
        have := mvR_all hab n o R (L ++ [(t, c, k)]) B S m (by simpa using A) fun x hx => hS x (List.mem_cons_of_mem _ hx)
        refine ⟨?_, this.2⟩
        have h1 := this.1
        simpa using h1
      · rw [if_neg hb, mvR, if_pos ⟨by rw [ht] at hb; simp [pickS, hb], by omega⟩]
        have A1 : AQ S.on S.sl (L ++ (t, c, k) :: (R ++ B)) := by simpa using A
        have A2 := A1.move hab hb
        have := mvR_all hab n o R L (B ++ [(t, b, k)]) (mv1 c b S t) (m + 1) (by simpa using A2) fun x hx => by
          have hne : x ≠ t := fun e => by
            subst e
            unfold slS at hx
            obtain ⟨⟨x', c', k'⟩, hq, e'⟩ := List.mem_map.1 hx
            obtain ⟨hq1, hq2⟩ := List.mem_filter.1 hq
            have hq2 : c' = c := by simpa using hq2
            subst hq2
            have e' : x' = x := e'
            subst e'
            have := A1.tid (k' := k) (show (x', c', k') ∈ _ by simp [hq1]) (by simp)
            subst this
            have nd := A1.nd
            rw [List.nodup_append, List.nodup_cons] at nd
            exact nd.2.1.1 (List.mem_append_left _ hq1)
          show ((upd S.on t _) x).getD [] = _
          rw [upd_ne _ _ hne]
          exact hS x (List.mem_cons_of_mem _ hx)
        refine ⟨?_, this.2⟩
        have h1 := this.1
        simpa using h1
    · have e1 : slS ((t, c, k) :: R) a = slS R a := by unfold slS; simp [hc]
      rw [e1] at hS ⊢
      rw [mvR, if_neg (by rintro ⟨h, _⟩; simp [pickS, hc] at h)]
      have := mvR_all hab n o R (L ++ [(t, c, k)]) B S m (by simpa using A) hS
      refine ⟨?_, this.2⟩
      have h1 := this.1
      simpa using h1
def moveS (a b : Chan) (n : Int) (s : List Seat) : List Seat := (mvR (onS s) a b n s 0).1 ++ (mvR (onS s) a b n s 0).2.1
theorem AQ.moved (A : AQ on sl s) {a b : Chan} (hab : a ≠ b) (n : Int) :
    AQ (mvAll a b n (sl a) ⟨on, sl⟩ 0).1.on (mvAll a b n (sl a) ⟨on, sl⟩ 0).1.sl (moveS a b n s) ∧ (mvAll a b n (sl a) ⟨on, sl⟩ 0).2 = (mvR (Proofs.Ytgncgokjbakdmaa.onS s) a b n s 0).2.2 := by
  have := mvR_all hab n (Proofs.Ytgncgokjbakdmaa.onS s) s [] [] ⟨on, sl⟩ 0 (by simpa using A) fun t _ => (A.onS t).symm
  rw [A.sl a]
  simpa [moveS] using this
/-- A list that rises is told by what is in it. -/
theorem rise_eq : ∀ {l m : List Int}, l.Pairwise (· < ·) → m.Pairwise (· < ·) → (∀ x, x ∈ l ↔ x ∈ m) → l = m
  | [], [], _, _, _ => rfl
  | [], y :: m, _, _, h => absurd ((h y).2 (List.mem_cons_self ..)) (by simp)
  | x :: l, [], _, _, h => absurd ((h x).1 (List.mem_cons_self ..)) (by simp)
  | x :: l, y :: m, h1, h2, h => by
    rw [List.pairwise_cons] at h1 h2
    have e : x = y := by
      rcases List.mem_cons.1 ((h x).1 (List.mem_cons_self ..)) with e | e
      · exact e
      · rcases List.mem_cons.1 ((h y).2 (List.mem_cons_self ..)) with e' | e'
        · exact e'.symm
        · have := h1.1 _ e'; have := h2.1 _ e; omega
    subst e
    rw [rise_eq h1.2 h2.2 fun z => ?_]
    constructor
    · intro hz
      exact (List.mem_cons.1 ((h z).1 (List.mem_cons_of_mem _ hz))).resolve_left fun e => by subst e; have := h1.1 _ hz; omega
    · intro hz
      exact (List.mem_cons.1 ((h z).2 (List.mem_cons_of_mem _ hz))).resolve_left fun e => by subst e; have := h2.1 _ hz; omega
end
end Go.Proofs.Ytgncgokjbakdmaa
