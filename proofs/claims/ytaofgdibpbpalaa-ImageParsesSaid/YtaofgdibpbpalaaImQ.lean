/-
  parapetref23.Parse, plainly: the words of bytes, and what is read out of them.
-/
import Derived.Test.YtaofgdibpbpalaaImF
set_option linter.all false
namespace Go.Proofs.Ytaofgdibpbpalaa
open Go.ChangeShapes Go.WideShapes Go.ChangeAt Go.RowKit Go.Lm
set_option linter.unusedSimpArgs false
def words : List Int → List Int
  | x :: y :: r => (x + 256 * y) :: words r
  | _ => []
theorem words_len : ∀ l : List Int, (words l).length = l.length / 2
  | [] => rfl
  | [_] => by simp [words]
  | x :: y :: r => by
    simp only [words, List.length_cons, words_len r]
    omega
theorem words_range : ∀ {l : List Int}, Bytes l → ∀ x ∈ words l, 0 ≤ x ∧ x < 65536
  | [], _, x, h => by cases h
  | [_], _, x, h => by cases h
  | a :: b :: r, hB, x, h => by
    rcases List.mem_cons.1 h with rfl | h
    · have := hB a (by simp)
      have := hB b (by simp)
      omega
    · exact words_range (fun y hy => hB y (by simp [hy])) x h
theorem words_two {n : Int} (h0 : 0 ≤ n) (h : n < 65536) (r : List Int) : words (two n ++ r) = n :: words r := by
  simp only [two, List.cons_append, List.nil_append, words, IntKind.wrap_u8]
  congr 1
  omega
theorem words_flat {A : Type} (f : A → Int × Int) (F : A → List Int) : ∀ (l : List A) (r : List Int), (∀ a ∈ l, F a = two (f a).1 ++ two (f a).2 ∧ 0 ≤ (f a).1 ∧ (f a).1 < 65536 ∧ 0 ≤ (f a).2 ∧ (f a).2 < 65536) → words (l.flatMap F ++ r) = (l.flatMap fun a => [(f a).1, (f a).2]) ++ words r
  | [], r, _ => rfl
  | a :: l, r, h => by
    obtain ⟨e, h1, h2, h3, h4⟩ := h a (by simp)
    have ih := words_flat f F l r fun a ha => h a (by simp [ha])
    simp only [List.flatMap_cons, e, List.append_assoc, words_two h1 h2, words_two h3 h4, ih]
    rfl
def wd (bs : List Int) (j : Nat) : Int := (words (bs.drop 4)).getD j 0
def atK (bs : List Int) : Nat → Int
  | 0 => 10 + 4 * wd bs 1 + 4 * wd bs 2
  | k + 1 => atK bs k + wd bs (4 + 2 * k)
def sgF (bs : List Int) (j : Nat) : Seg := (wd bs (3 + 2 * j), (bs.drop (atK bs j).toNat).take (wd bs (4 + 2 * j)).toNat)
def sgK (bs : List Int) (k : Nat) : List Seg := (List.range k).map (sgF bs)
def zeF (bs : List Int) (j : Nat) : Int × Int := (wd bs (3 + 2 * (wd bs 1).toNat + 2 * j), wd bs (4 + 2 * (wd bs 1).toNat + 2 * j))
def zeK (bs : List Int) (k : Nat) : List (Int × Int) := (List.range k).map (zeF bs)
theorem wd_range {bs : List Int} (hB : Bytes bs) (j : Nat) : 0 ≤ wd bs j ∧ wd bs j < 65536 := by
  unfold wd
  rw [List.getD_eq_getElem?_getD]
  cases h : (words (bs.drop 4))[j]? with
  | none => simp
  | some x => exact words_range (fun y hy => hB y (List.mem_of_mem_drop hy)) x (List.mem_of_getElem? h)
theorem sgK_succ (bs : List Int) (k : Nat) : sgK bs (k + 1) = sgK bs k ++ [sgF bs k] := by simp [sgK, List.range_succ]
theorem zeK_succ (bs : List Int) (k : Nat) : zeK bs (k + 1) = zeK bs k ++ [zeF bs k] := by simp [zeK, List.range_succ]
theorem pair_get {A : Type} (f : A → Int × Int) : ∀ (l : List A) (r : List Int) (j : Nat) (a : A), l[j]? = some a → ((l.flatMap fun a => [(f a).1, (f a).2]) ++ r)[2 * j]? = some (f a).1 ∧ ((l.flatMap fun a => [(f a).1, (f a).2]) ++ r)[2 * j + 1]? = some (f a).2
  | [], _, _, _, h => by simp at h
  | b :: l, r, 0, a, h => by
    simp only [List.getElem?_cons_zero, Option.some.injEq] at h
    subst h
    exact ⟨rfl, rfl⟩
  | b :: l, r, j + 1, a, h => by
    have := pair_get f l r j a (by simpa using h)
    simp only [List.flatMap_cons, List.cons_append, List.nil_append, show 2 * (j + 1) = 2 * j + 1 + 1 by omega, List.getElem?_cons_succ]
    exact this
/-- The words of an image's bytes. -/
structure Words (bs : List Int) (en : Int) (segs : List Seg) (zs : List (Int × Int)) : Prop where
  w0 : wd bs 0 = en
  w1 : wd bs 1 = segs.length
  w2 : wd bs 2 = zs.length
  ws : ∀ (j : Nat) s, segs[j]? = some s → wd bs (3 + 2 * j) = s.1 ∧ wd bs (4 + 2 * j) = s.2.length
  wz : ∀ (j : Nat) z, zs[j]? = some z → wd bs (3 + 2 * segs.length + 2 * j) = z.1 ∧ wd bs (4 + 2 * segs.length + 2 * j) = z.2
theorem flat2_len {A : Type} (f : A → Int × Int) (l : List A) : (l.flatMap fun a => [(f a).1, (f a).2]).length = 2 * l.length := by
  induction l with
  | nil => rfl
  | cons a l ih => simp only [List.flatMap_cons, List.length_append, ih, List.length_cons, List.length_nil]; omega
theorem words_make {en : Int} {segs : List Seg} {zs : List (Int × Int)} (h : checkN en segs zs = 0) (hf : Fits segs) : Words (makeB en segs zs) en segs zs := by
  have F := checkN_facts h
  have h1 := F.sl
  have h2 := F.zl
  have hs := fun r => words_flat (fun s : Seg => (s.1, (s.2.length : Int))) segH segs r fun s hs => by
    have := F.seg s hs
    exact ⟨rfl, this.1, addr_small this.1 (hf.addr s hs) this.2.2.2, by simp only; omega, by simp only; omega⟩
  have hz := fun r => words_flat (fun z : Int × Int => z) zerH zs r fun z hz => by
    have := F.zer z hz
    exact ⟨rfl, by omega, by omega, by omega, by omega⟩
  have e : words ((makeB en segs zs).drop 4) = en :: (segs.length : Int) :: (zs.length : Int) :: ((segs.flatMap fun s => [s.1, (s.2.length : Int)]) ++ ((zs.flatMap fun z => [z.1, z.2]) ++ words (segs.flatMap (·.2)))) := by
    have : (makeB en segs zs).drop 4 = two en ++ (two (segs.length : Int) ++ (two (zs.length : Int) ++ (segs.flatMap segH ++ (zs.flatMap zerH ++ segs.flatMap (·.2))))) := by
      simp only [makeB, List.append_assoc]
      rfl
    rw [this, words_two F.en0 (by have := F.en1; omega), words_two (n := (segs.length : Int)) (by omega) (by omega), words_two (n := (zs.length : Int)) (by omega) (by omega), hs, hz]
  refine ⟨?_, ?_, ?_, fun j s hj => ?_, fun j z hj => ?_⟩
  · simp only [wd, e]; rfl
  · simp only [wd, e]; rfl
  · simp only [wd, e]; rfl
  · have := pair_get (fun s : Seg => (s.1, (s.2.length : Int))) segs ((zs.flatMap fun z => [z.1, z.2]) ++ words (segs.flatMap (·.2))) j s hj
    simp only [wd, e, List.getD_eq_getElem?_getD, show 3 + 2 * j = 2 * j + 1 + 1 + 1 by omega, show 4 + 2 * j = 2 * j + 1 + 1 + 1 + 1 by omega, List.getElem?_cons_succ]
    exact ⟨by rw [this.1]; rfl, by rw [this.2]; rfl⟩
  · have := pair_get (fun z : Int × Int => z) zs (words (segs.flatMap (·.2))) j z hj
    have hl : (segs.flatMap fun s => [s.1, (s.2.length : Int)]).length = 2 * segs.length := flat2_len (fun s : Seg => (s.1, (s.2.length : Int))) segs
    simp only [wd, e, List.getD_eq_getElem?_getD, show 3 + 2 * segs.length + 2 * j = 2 * segs.length + 2 * j + 1 + 1 + 1 by omega, show 4 + 2 * segs.length + 2 * j = 2 * segs.length + 2 * j + 1 + 1 + 1 + 1 by omega, List.getElem?_cons_succ]
    refine ⟨?_, ?_⟩
    · rw [List.getElem?_append_right (by omega), hl, show 2 * segs.length + 2 * j - 2 * segs.length = 2 * j by omega, this.1]; rfl
    · rw [List.getElem?_append_right (by omega), hl, show 2 * segs.length + 2 * j + 1 - 2 * segs.length = 2 * j + 1 by omega, this.2]; rfl
theorem take_snoc {A : Type} {l : List A} {k : Nat} {x : A} (h : l[k]? = some x) : l.take (k + 1) = l.take k ++ [x] := by
  rw [List.take_add_one, h]; rfl
/-- What is read out of an image's bytes. -/
structure Good (bs : List Int) (en : Int) (segs : List Seg) (zs : List (Int × Int)) : Prop where
  len : bs.length ≤ 16384
  w1 : wd bs 1 ≤ 16
  w2 : wd bs 2 ≤ 16
  room : 10 + 4 * wd bs 1 + 4 * wd bs 2 ≤ bs.length
  fit : ∀ j : Nat, j < wd bs 1 → wd bs (4 + 2 * j) ≤ bs.length - atK bs j
  e0 : wd bs 0 = en
  e1 : sgK bs (wd bs 1).toNat = segs
  e2 : zeK bs (wd bs 2).toNat = zs
theorem good {bs : List Int} (hB : Bytes bs) {en : Int} {segs : List Seg} {zs : List (Int × Int)} (h : parseN bs = some (en, segs, zs)) : Good bs en segs zs := by
  obtain ⟨hN, rfl, hf⟩ := parse_facts hB h
  have W := words_make hN hf
  have F := checkN_facts hN
  have h1 := F.sl
  have h2 := F.zl
  have hl := makeB_len (en := en) (segs := segs) (zs := zs)
  generalize hbs : makeB en segs zs = bs at *
  have hdrop : bs.drop (10 + 4 * segs.length + 4 * zs.length) = segs.flatMap (·.2) := by
    have hh : (magic ++ (two en ++ two (segs.length : Int) ++ two (zs.length : Int)) ++ segs.flatMap segH ++ zs.flatMap zerH).length = 10 + 4 * segs.length + 4 * zs.length := by
      simp only [List.length_append, flat4 segH (fun _ => rfl), flat4 zerH (fun _ => rfl), magic, two, List.length_cons, List.length_nil]
    rw [← hbs, ← hh]
    exact List.drop_left
  have hk : ∀ k : Nat, k ≤ segs.length → atK bs k = 10 + 4 * segs.length + 4 * zs.length + ((segs.take k).flatMap (·.2)).length ∧ sgK bs k = segs.take k := by
    intro k
    induction k with
    | zero => intro _; simp [atK, sgK, W.w1, W.w2]
    | succ k ih =>
      intro hk
      obtain ⟨i1, i2⟩ := ih (by omega)
      obtain ⟨s, hs, _⟩ := drop_at (l := segs) (k := k) (by omega)
      have hw := W.ws k s hs
      have ht := take_snoc hs
      refine ⟨?_, ?_⟩
      · simp only [atK, i1, hw.2, ht, List.flatMap_append, List.length_append, List.flatMap_cons, List.flatMap_nil, List.append_nil]
        omega
      · rw [sgK_succ, i2, ht]
        congr 2
        unfold sgF
        rw [hw.1, hw.2, i1]
        have e1 : ((10 : Int) + 4 * segs.length + 4 * zs.length + ((segs.take k).flatMap (·.2)).length).toNat = (10 + 4 * segs.length + 4 * zs.length) + ((segs.take k).flatMap (·.2)).length := by omega
        rw [e1, ← List.drop_drop, hdrop]
        have e2 : segs.flatMap (·.2) = (segs.take k).flatMap (·.2) ++ (s.2 ++ (segs.drop (k + 1)).flatMap (·.2)) := by
          conv => lhs; rw [← List.take_append_drop k segs]
          rw [List.flatMap_append, List.drop_eq_getElem_cons (by omega), List.flatMap_cons]
          have : segs[k] = s := by rw [List.getElem?_eq_getElem (by omega)] at hs; exact Option.some.inj hs
          rw [this]
        rw [e2, List.drop_left]
        simp
  refine ⟨hbs ▸ makeB_short hN, by rw [W.w1]; omega, by rw [W.w2]; omega, by rw [W.w1, W.w2]; omega, fun j hj => ?_, W.w0, ?_, ?_⟩
  · rw [W.w1] at hj
    obtain ⟨i1, _⟩ := hk j (by omega)
    obtain ⟨s, hs, _⟩ := drop_at (l := segs) (k := j) (by omega)
    rw [(W.ws j s hs).2, i1]
    have e2 : (segs.flatMap (·.2)).length = ((segs.take j).flatMap (·.2)).length + (s.2.length + ((segs.drop (j + 1)).flatMap (·.2)).length) := by
      conv => lhs; rw [← List.take_append_drop j segs]
      rw [List.flatMap_append, List.drop_eq_getElem_cons (by omega), List.flatMap_cons]
      have : segs[j] = s := by rw [List.getElem?_eq_getElem (by omega)] at hs; exact Option.some.inj hs
      rw [this]
      simp
    omega
  · rw [W.w1, Int.toNat_natCast, (hk segs.length (Nat.le_refl _)).2, List.take_length]
  · rw [W.w2, Int.toNat_natCast]
    apply List.ext_getElem?
    intro j
    by_cases hj : j < zs.length
    · obtain ⟨z, hz, _⟩ := drop_at hj
      have := W.wz j z hz
      rw [hz]
      simp only [zeK, List.getElem?_map, List.getElem?_range hj, Option.map_some, zeF, W.w1, Int.toNat_natCast, this.1, this.2]
    · rw [List.getElem?_eq_none (by simp [zeK]; omega), List.getElem?_eq_none (by omega)]
theorem bad {bs : List Int} (hB : Bytes bs) (h : 16384 < bs.length ∨ bs.length < 10 ∨ 16 < wd bs 1 ∨ 16 < wd bs 2 ∨ (bs.length : Int) < 10 + 4 * wd bs 1 + 4 * wd bs 2 ∨ ∃ j : Nat, j < wd bs 1 ∧ (bs.length : Int) - atK bs j < wd bs (4 + 2 * j)) : parseN bs = none := by
  cases hp : parseN bs with
  | none => rfl
  | some x =>
    obtain ⟨en, segs, zs⟩ := x
    have G := good hB hp
    have := G.len
    have := G.w1
    have := G.w2
    have := G.room
    have := wd_range hB 1
    have := wd_range hB 2
    rcases h with h | h | h | h | h | ⟨j, h1, h2⟩
    · omega
    · omega
    · omega
    · omega
    · omega
    · have := G.fit j h1; omega
end Go.Proofs.Ytaofgdibpbpalaa
