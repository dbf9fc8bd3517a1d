/-
  waitq and its reference, plain: seats.
-/
import Derived.Test.YtgncgokjbakdmaaWaE
set_option linter.all false
namespace Go.Proofs.Ytgncgokjbakdmaa
open Go.ChangeShapes Go.WideShapes Go.ChangeAt Go.RowKit Go.Lm
set_option linter.unusedSimpArgs false
set_option maxRecDepth 10000
abbrev Seat := Int × Chan × Int
def slS (s : List Seat) (c : Chan) : List Int := (s.filter fun p => decide (p.2.1 = c)).map (·.1)
def onN (s : List Seat) (t k : Int) : List Chan := (s.filter fun p => decide (p.1 = t) && decide (p.2.2 = k)).map (·.2.1)
def onS (s : List Seat) (t : Int) : List Chan := (List.range 16).flatMap fun (k : Nat) => onN s t k
def cancelS (s : List Seat) (t : Int) : List Seat := s.filter fun p => !(p.1 == t)
structure AQ (on : Int → Option (List Chan)) (sl : Chan → List Int) (s : List Seat) : Prop where
  nd : s.Nodup
  mem : ∀ t c k, (t, c, k) ∈ s ↔ ∃ l, on t = some l ∧ 0 ≤ k ∧ l[k.toNat]? = some c
  sl : ∀ c, sl c = slS s c
  ne : ∀ t, on t ≠ some []
  le : ∀ t l, on t = some l → l.length ≤ 16 ∧ l.Nodup
theorem AQ.empty : AQ (fun _ => none) (fun _ => []) [] := ⟨List.nodup_nil, fun t c k => by simp, fun c => rfl, fun t h => (by cases h), fun t l h => by cases h⟩
variable {on : Int → Option (List Chan)} {sl : Chan → List Int} {s : List Seat}
theorem filter_one {A : Type} {p : A → Bool} {x : A} : ∀ {l : List A}, l.Nodup → x ∈ l → p x = true → (∀ y ∈ l, p y = true → y = x) → l.filter p = [x]
  | [], _, h, _, _ => by cases h
  | y :: l, nd, hx, hp, hu => by
    rw [List.nodup_cons] at nd
    rw [List.filter_cons]
    rcases List.mem_cons.1 hx with rfl | hx
    · rw [if_pos hp, List.filter_eq_nil_iff.2]
      intro z hz hpz
      have := hu z (List.mem_cons_of_mem _ hz) hpz
      exact nd.1 (this ▸ hz)
    · have hy : ¬ p y = true := fun hpy => by
        have := hu y (List.mem_cons_self ..) hpy
        exact nd.1 (this ▸ hx)
      rw [if_neg hy]
      exact filter_one nd.2 hx hp fun z hz => hu z (List.mem_cons_of_mem _ hz)
theorem AQ.onN (A : AQ on sl s) (t : Int) (k : Nat) : onN s t k = (((on t).getD [])[k]?).toList := by
  unfold Proofs.Ytgncgokjbakdmaa.onN
  cases h : ((on t).getD [])[k]? with
  | none =>
    show _ = []
    rw [List.map_eq_nil_iff, List.filter_eq_nil_iff]
    rintro ⟨t', c', k'⟩ hp hh
    simp only [Bool.and_eq_true, decide_eq_true_eq] at hh
    obtain ⟨rfl, rfl⟩ := hh
    obtain ⟨l, h1, _, h2⟩ := (A.mem _ _ _).1 hp
    rw [h1] at h
    simp only [Option.getD_some, Int.toNat_natCast] at h h2
    rw [h] at h2; cases h2
  | some c =>
    show _ = [c]
    have hon : ∃ l, on t = some l := by
      cases ho : on t with
      | none => rw [ho] at h; simp at h
      | some l => exact ⟨l, rfl⟩
    obtain ⟨l, hl⟩ := hon
    rw [hl, Option.getD_some] at h
    rw [filter_one (x := (t, c, (k : Int))) A.nd ((A.mem _ _ _).2 ⟨l, hl, by omega, by rw [Int.toNat_natCast]; exact h⟩) (by simp) ?_]
    · rfl
    · rintro ⟨t', c', k'⟩ hp hh
      simp only [Bool.and_eq_true, decide_eq_true_eq] at hh
      obtain ⟨rfl, rfl⟩ := hh
      obtain ⟨l', h1, _, h2⟩ := (A.mem _ _ _).1 hp
      rw [hl] at h1; cases h1
      rw [Int.toNat_natCast, h] at h2; cases h2; rfl
theorem flat_get {X : Type} (l : List X) : ∀ m, (List.range m).flatMap (fun k => (l[k]?).toList) = l.take m
  | 0 => by simp
  | m + 1 => by
    rw [List.range_succ, List.flatMap_append, flat_get l m, List.take_add_one]
    simp only [List.flatMap_cons, List.flatMap_nil, List.append_nil]
theorem AQ.onS (A : AQ on sl s) (t : Int) : onS s t = (on t).getD [] := by
  unfold Proofs.Ytgncgokjbakdmaa.onS
  have : (fun k : Nat => Proofs.Ytgncgokjbakdmaa.onN s t k) = fun k : Nat => (((on t).getD [])[k]?).toList := by
    funext k; exact A.onN t k
  rw [this, flat_get, List.take_of_length_le]
  cases h : on t with
  | none => simp
  | some l => exact (A.le t l h).1
theorem AQ.dom (A : AQ on sl s) (t : Int) : (∃ p ∈ s, p.1 = t) ↔ (on t).isSome = true := by
  constructor
  · rintro ⟨⟨t', c, k⟩, hp, rfl⟩
    obtain ⟨l, h, _⟩ := (A.mem _ _ _).1 hp
    show (on t').isSome = true
    rw [h]; rfl
  · intro h
    obtain ⟨l, hl⟩ := Option.isSome_iff_exists.1 h
    cases l with
    | nil => exact absurd hl (A.ne t)
    | cons c l => exact ⟨(t, c, 0), (A.mem _ _ _).2 ⟨_, hl, by omega, rfl⟩, rfl⟩
theorem slS_filter (s : List Seat) (p : Int → Bool) (c : Chan) : slS (s.filter fun q => p q.1) c = (slS s c).filter p := by
  unfold slS
  rw [List.filter_map, List.filter_filter, List.filter_filter]
  congr 1
  exact List.filter_congr fun x _ => by simp [Bool.and_comm, Function.comp_def]
/-- Some threads sleep no more. -/
theorem AQ.gone (A : AQ on sl s) (p : Int → Bool) : AQ (fun t => if p t = true then on t else none) (fun c => (sl c).filter p) (s.filter fun q => p q.1) := by
  refine ⟨A.nd.filter _, fun t c k => ?_, fun c => by rw [slS_filter, A.sl], fun t => ?_, fun t l h => ?_⟩
  · rw [List.mem_filter, A.mem]
    by_cases h : p t = true
    · simp only [h, if_true, and_true]
    · simp [h]
  · by_cases h : p t = true
    · simp only [h, if_true]; exact A.ne t
    · simp [h]
  · by_cases hp : p t = true
    · simp only [hp, if_true] at h; exact A.le t l h
    · simp [hp] at h
theorem AQ.cancel (A : AQ on sl s) (t : Int) : AQ (upd on t none) (fun c => (sl c).filter fun x => !(x == t)) (cancelS s t) := by
  have := A.gone fun x => !(x == t)
  have e : (fun x => if (!(x == t)) = true then on x else none) = upd on t none := by
    funext x
    by_cases h : x = t
    · subst h; rw [upd_at]; simp
    · rw [upd_ne _ _ h]; simp [h]
  rw [e] at this
  exact this
theorem nd_inj {X : Type} {l : List X} (nd : l.Nodup) {a b : Nat} (ha : a < l.length) (hb : b < l.length) (e : l[a] = l[b]) : a = b := by
  have hp := List.pairwise_iff_getElem.1 nd
  rcases Nat.lt_trichotomy a b with h | h | h
  · exact absurd e (hp a b ha hb h)
  · exact h
  · exact absurd e.symm (hp b a hb ha h)
/-- A thread goes to sleep. -/
def seatsOf (t : Int) (l : List Chan) : Nat → List Seat
  | 0 => []
  | k + 1 => seatsOf t l k ++ (match l[k]? with | some c => [(t, c, (k : Int))] | none => [])
theorem mem_seatsOf {t : Int} {l : List Chan} : ∀ {m : Nat} {q : Seat}, q ∈ seatsOf t l m ↔ q.1 = t ∧ 0 ≤ q.2.2 ∧ q.2.2 < m ∧ l[q.2.2.toNat]? = some q.2.1
  | 0, q => by
    simp only [seatsOf, List.not_mem_nil, false_iff]
    rintro ⟨_, h1, h2, _⟩; omega
  | k + 1, (t', c', k') => by
    simp only [seatsOf, List.mem_append, mem_seatsOf (m := k)]
    constructor
    · rintro (⟨h1, h2, h3, h4⟩ | h)
      · exact ⟨h1, h2, by omega, h4⟩
      · cases hk : l[k]? with
        | none => rw [hk] at h; cases h
        | some c =>
          rw [hk] at h
          simp only [List.mem_singleton, Prod.mk.injEq] at h
          obtain ⟨rfl, rfl, rfl⟩ := h
          exact ⟨rfl, by omega, by omega, by simpa using hk⟩
    · rintro ⟨h1, h2, h3, h4⟩
      by_cases e : k' = k
      · subst e
        refine .inr ?_
        simp only [Int.toNat_natCast] at h4
        rw [h4]; simp [h1]
      · exact .inl ⟨h1, h2, by omega, h4⟩
theorem nd_seatsOf {t : Int} {l : List Chan} : ∀ m, (seatsOf t l m).Nodup
  | 0 => List.nodup_nil
  | k + 1 => by
    rw [seatsOf, List.nodup_append]
    refine ⟨nd_seatsOf k, by split <;> simp, fun a ha b hb e => ?_⟩
    subst e
    have := (mem_seatsOf.1 ha).2.2.1
    cases hk : l[k]? with
    | none => rw [hk] at hb; cases hb
    | some c => rw [hk] at hb; simp only [List.mem_singleton] at hb; subst hb; simp at this
theorem AQ.sleep (A : AQ on sl s) {t : Int} {l : List Chan} (hn : on t = none) (h0 : l ≠ []) (h16 : l.length ≤ 16) (nd : l.Nodup) : AQ (upd on t (some l)) (fun c => if c ∈ l then sl c ++ [t] else sl c) (s ++ seatsOf t l l.length) := by
  have fresh : ∀ q ∈ s, q.1 ≠ t := fun q hq e => by
    have := (A.dom t).1 ⟨q, hq, e⟩
    rw [hn] at this; cases this
  refine ⟨?_, fun t' c k => ?_, fun c => ?_, fun t' => ?_, fun t' l' h => ?_⟩
  · rw [List.nodup_append]
    exact ⟨A.nd, nd_seatsOf _, fun a ha b hb e => fresh a ha (by rw [e]; exact (mem_seatsOf.1 hb).1)⟩
  · rw [List.mem_append, A.mem, mem_seatsOf]
    by_cases e : t' = t
    · subst e
      rw [upd_at, hn]
      constructor
      · rintro (⟨_, h, _⟩ | ⟨_, h1, h2, h3⟩)
        · cases h
        · exact ⟨l, rfl, h1, h3⟩
      · rintro ⟨l', h, h1, h2⟩
        cases h
        have := (List.getElem?_eq_some_iff.1 h2).1
        exact .inr ⟨rfl, h1, by show k < _; omega, h2⟩
    · rw [upd_ne _ _ e]
      constructor
      · rintro (h | ⟨h, _⟩)
        · exact h
        · exact absurd h e
      · exact .inl
  · unfold slS
    rw [List.filter_append, List.map_append]
    show _ = slS s c ++ _
    rw [← A.sl c]
    by_cases hc : c ∈ l
    · obtain ⟨k, hk, hkc⟩ := List.getElem_of_mem hc
      have hkc' : l[k]? = some c := by rw [List.getElem?_eq_getElem hk, hkc]
      rw [if_pos hc, filter_one (x := (t, c, (k : Int))) (nd_seatsOf _) (mem_seatsOf.2 ⟨rfl, by show (0 : Int) ≤ k; omega, by show (k : Int) < _; omega, by simpa using hkc'⟩) (by simp) ?_]
      · rfl
      · rintro ⟨t', c', k'⟩ hq hp
        simp only [decide_eq_true_eq] at hp
        obtain ⟨h1, h2, h3, h4⟩ := mem_seatsOf.1 hq
        simp only at h1 h2 h3 h4
        subst h1; subst hp
        have : k'.toNat = k := by
          have h5 := (List.getElem?_eq_some_iff.1 h4).1
          have h6 : l[k'.toNat] = l[k] := by rw [hkc]; exact (List.getElem?_eq_some_iff.1 h4).2
          exact nd_inj nd h5 hk h6
        have : k' = (k : Int) := by omega
        subst this; rfl
    · rw [if_neg hc, List.filter_eq_nil_iff.2]
      · simp
      · rintro ⟨t', c', k'⟩ hq hp
        simp only [decide_eq_true_eq] at hp
        subst hp
        exact hc (List.mem_of_getElem? (mem_seatsOf.1 hq).2.2.2)
  · by_cases e : t' = t
    · subst e; rw [upd_at]; intro h; cases h; exact h0 rfl
    · rw [upd_ne _ _ e]; exact A.ne t'
  · by_cases e : t' = t
    · subst e; rw [upd_at] at h; cases h; exact ⟨h16, nd⟩
    · rw [upd_ne _ _ e] at h; exact A.le t' l' h
end Go.Proofs.Ytgncgokjbakdmaa
