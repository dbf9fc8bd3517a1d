/-
  The logical machine: a deep reading of a program over numbered objects, proved sound once; parts m5 to m9.
-/
import Derived.Test.YtfbagndfifibiaaLm5x
set_option linter.all false
/-
  The logical machine, part 5: cuts of rows, rows that are made; bytes as texts.
-/
namespace Go.Lm

set_option linter.unusedSimpArgs false
variable {P : Program} {g : LHeap} {X : Type} {E : Enc X} {V : LV} {l : List X}

theorem All2.monoM {A B : Type} {R S : A → B → Prop} : ∀ {as : List A} {bs : List B}, All2 R as bs → (∀ a b, a ∈ as → R a b → S a b) → All2 S as bs
  | [], [], _, _ => trivial
  | a :: _, _ :: _, h, hm => ⟨hm _ _ (by simp) h.1, h.2.monoM fun a b ha => hm a b (by simp [ha])⟩
  | [], _ :: _, h, _ => h.elim
  | _ :: _, [], h, _ => h.elim
theorem All2.set {A B : Type} {R : A → B → Prop} : ∀ {as : List A} {bs : List B}, All2 R as bs → ∀ (k : Nat) {a : A} {b : B}, R a b → All2 R (as.set k a) (bs.set k b)
  | [], [], _, _, _, _, _ => trivial
  | _ :: _, _ :: _, h, 0, _, _, h' => ⟨h', h.2⟩
  | _ :: _, _ :: _, h, k + 1, _, _, h' => ⟨h.1, h.2.set k h'⟩
  | [], _ :: _, h, _, _, _, _ => h.elim
  | _ :: _, [], h, _, _, _, _ => h.elim
/-- May be cut: it keeps within its capacity. -/
def Capd (V : LV) (e : Nat) : Prop :=
  match V with
  | .slice _ _ n (.ex c) => n ≤ c
  | .slice _ _ _ (.op e') => e' = e
  | .nils | .tail _ _ _ _ _ => True
  | _ => False
theorem Grow.capd {e : Nat} (h : Grow g V e) : Capd V e := by
  cases V with
  | slice a off n c => cases c <;> exact h.1
  | _ => first | trivial | exact h
theorem cut_t {t et : TypeId} {e : Nat} (hu : P.underlying t = some (.slice et)) (hz : sizeL P et = some e) (he : e ≠ 0) (x : LV) (lim : Nat) :
    (∀ k n, cutT P t x none (some (.int k n)) none lim = cutL e x none (some n) none lim) ∧ (∀ k n, cutT P t x (some (.int k n)) none none lim = cutL e x (some n) none none lim) ∧
    (∀ k n k' m, cutT P t x (some (.int k n)) (some (.int k' m)) none lim = cutL e x (some n) (some m) none lim) ∧ (∀ k n k' m, cutT P t x none (some (.int k n)) (some (.int k' m)) lim = cutL e x none (some n) (some m) lim) ∧ (cutT P t x none none none lim = cutL e x none none none lim) ∧
    (∀ k n k' m k2 m2, cutT P t x (some (.int k n)) (some (.int k' m)) (some (.int k2 m2)) lim = cutL e x (some n) (some m) (some m2) lim) := by
  simp only [cutT, optInt, intL, Option.map_some, hu, hz, if_neg he, implies_true, and_self]
/-- l[i:j] with 0 ≤ i ≤ j ≤ len l, whatever the capacity's end: what stands there. -/
theorem Row.cut (h : Row g V E l) (hc : Capd V E.e) {i j : Nat} (hij : i ≤ j) (hj : j ≤ l.length) (lo hi : Option Int) (hlo : lo.getD 0 = (i : Int)) (hhi : hi.getD l.length = (j : Int)) :
    ∃ U, cutL E.e V lo hi none (limL V g) = some U ∧ Row g U E ((l.drop i).take (j - i)) ∧ Capd U E.e ∧ (∀ a, U.obj = some a → V.obj = some a) ∧ (Mine g V → Mine g U) := by
  have hE := E.pos
  rcases h with ⟨rfl, rfl | ⟨a, off, alt, z, b, rfl⟩⟩ | ⟨a, off, cap, vs, own, rfl, hg, hv, hl⟩
  · simp only [List.length_nil] at hj hhi
    obtain rfl : j = 0 := by omega
    obtain rfl : i = 0 := by omega
    have h2 : hi.getD 0 = 0 := by simpa using hhi
    refine ⟨.nils, ?_, Row.nils _ _, trivial, fun a ha => ha, fun h => h⟩
    simp only [cutL, hlo, h2]
    simp
  · simp only [List.length_nil] at hj hhi
    obtain rfl : j = 0 := by omega
    obtain rfl : i = 0 := by omega
    have h2 : hi.getD 0 = 0 := by simpa using hhi
    refine ⟨.tail a off alt z b, ?_, .inl ⟨by simp, .inr ⟨_, _, _, _, _, rfl⟩⟩, trivial, fun a ha => ha, fun h => h⟩
    simp only [cutL, hlo, h2]
    simp
  · have hln : (l.drop i).length = l.length - i := by simp
    have hlt : ((l.drop i).take (j - i)).length = j - i := by rw [List.length_take, hln]; omega
    have hfm : ((vs.drop (off + i * E.e)).take ((j - i) * E.e)) = ((l.drop i).take (j - i)).flatMap E.f := by
      have h1 : ∀ (l : List X) (k : Nat), (l.drop k).flatMap E.f = (l.flatMap E.f).drop (k * E.e) := by
        intro l k
        induction l generalizing k with
        | nil => simp
        | cons x l ih =>
          cases k with
          | zero => simp
          | succ k =>
            simp only [List.drop_succ_cons, ih, List.flatMap_cons]
            rw [show (k + 1) * E.e = (E.f x).length + k * E.e by rw [E.len, Nat.succ_mul]; omega, ← List.drop_drop, List.drop_left]
      have h2 : ∀ (l : List X) (k : Nat), (l.take k).flatMap E.f = (l.flatMap E.f).take (k * E.e) := by
        intro l k
        induction l generalizing k with
        | nil => simp
        | cons x l ih =>
          cases k with
          | zero => simp
          | succ k =>
            simp only [List.take_succ_cons, List.flatMap_cons, ih]
            rw [List.take_append, E.len, show (k + 1) * E.e - E.e = k * E.e by rw [Nat.succ_mul]; omega, List.take_of_length_le (l := E.f x) (by rw [E.len, Nat.succ_mul]; omega)]
      rw [h2, h1, ← hv, List.drop_take, List.take_take, List.drop_drop]
      have h3 : (j - i) * E.e ≤ l.length * E.e - i * E.e := by rw [← Nat.sub_mul]; exact Nat.mul_le_mul_right _ (by omega)
      congr 1
      omega
    have hlen2 : off + i * E.e + (j - i) * E.e ≤ vs.length := by
      have h3 : i * E.e + (j - i) * E.e ≤ l.length * E.e := by rw [← Nat.add_mul]; exact Nat.mul_le_mul_right _ (by omega)
      omega
    have row : ∀ (off' : Nat) (c : Cap), (off' = off + i * E.e ∨ (i = j ∧ off' ≤ vs.length)) → Row g (.slice a off' (j - i) c) E ((l.drop i).take (j - i)) := fun off' c ho => by
      refine Row.of hg hlt.symm ?_ ?_
      · rw [hlt]
        rcases ho with rfl | ⟨rfl, _⟩
        · exact hfm
        · simp
      · rw [hlt]
        rcases ho with rfl | ⟨rfl, ho⟩
        · exact hlen2
        · simpa using ho
    have e1 : ((j : Int) - i).toNat = j - i := by omega
    have e2 : ((i : Int)).toNat = i := by omega
    cases cap with
    | ex c =>
      have hcc : l.length ≤ c := hc
      have e3 : ((c : Int) - i).toNat = c - i := by omega
      refine ⟨.slice a (if (c : Int) = i then off else off + i * E.e) (j - i) (.ex (c - i)), ?_, row _ _ ?_, ?_, fun b hb => hb, fun h => h⟩
      · simp only [cutL, hlo, hhi]
        rw [if_pos ⟨by omega, by omega⟩]
        simp only [cutS]
        rw [if_pos (by omega), e1, e2, e3]
      · split
        · exact .inr ⟨by omega, by omega⟩
        · exact .inl rfl
      · show j - i ≤ c - i; omega
    | op e' =>
      have he : e' = E.e := hc
      subst he
      by_cases hx : (i : Int) < ((max l.length (limL (.slice a off l.length (.op E.e)) g) : Nat) : Int)
      · refine ⟨.slice a (off + i * E.e) (j - i) (.op E.e), ?_, row _ _ (.inl rfl), rfl, fun b hb => hb, fun h => h⟩
        simp only [cutL, hlo, hhi]
        rw [if_pos ⟨by omega, by omega⟩]
        simp only [cutS]
        rw [if_pos ⟨by omega, trivial⟩, if_pos hx, e1, e2]
      · have : j = i := by omega
        subst this
        refine ⟨.tail a (off + j * E.e) off E.e false, ?_, .inl ⟨by simp, .inr ⟨_, _, _, _, _, rfl⟩⟩, trivial, fun b hb => hb, fun _ => trivial⟩
        simp only [cutL, hlo, hhi]
        rw [if_pos ⟨by omega, by omega⟩]
        simp only [cutS]
        rw [if_pos ⟨by omega, trivial⟩, if_neg hx, e2]
/-- l[:n:n] -/
theorem Row.cut3 (h : Row g V E l) (hc : Capd V E.e) {n : Nat} (hn : n ≤ l.length) (lim : Nat) : ∃ U, cutL E.e V none (some (n : Int)) (some (n : Int)) lim = some U ∧ Row g U E (l.take n) ∧ Capd U E.e ∧ (∀ a, U.obj = some a → V.obj = some a) ∧ Grow g U E.e := by
  have hE := E.pos
  rcases h with ⟨rfl, rfl | ⟨a, off, alt, z, b, rfl⟩⟩ | ⟨a, off, cap, vs, own, rfl, hg, hv, hl⟩
  · simp only [List.length_nil] at hn
    obtain rfl : n = 0 := by omega
    exact ⟨.nils, by simp [cutL], Row.nils _ _, trivial, fun a ha => ha, trivial⟩
  · simp only [List.length_nil] at hn
    obtain rfl : n = 0 := by omega
    exact ⟨.tail a off alt z (b || true), by simp [cutL], .inl ⟨by simp, .inr ⟨_, _, _, _, _, rfl⟩⟩, trivial, fun a ha => ha, by simp [Grow]⟩
  · have hlt : (l.take n).length = n := by rw [List.length_take]; omega
    have hle : n * E.e ≤ l.length * E.e := Nat.mul_le_mul_right _ hn
    have hfm : ((vs.drop off).take (n * E.e)) = (l.take n).flatMap E.f := by
      have h2 : ∀ (l : List X) (k : Nat), (l.take k).flatMap E.f = (l.flatMap E.f).take (k * E.e) := by
        intro l k
        induction l generalizing k with
        | nil => simp
        | cons x l ih =>
          cases k with
          | zero => simp
          | succ k =>
            simp only [List.take_succ_cons, List.flatMap_cons, ih]
            rw [List.take_append, E.len, show (k + 1) * E.e - E.e = k * E.e by rw [Nat.succ_mul]; omega, List.take_of_length_le (l := E.f x) (by rw [E.len, Nat.succ_mul]; omega)]
      rw [h2, ← hv, List.take_take]
      congr 1
      omega
    have hcc : (n : Int) ≤ (match cap with | .ex c => c | .op _ => l.length : Nat) := by
      cases cap with
      | ex c => have : l.length ≤ c := hc; simp only; omega
      | op e' => simp only; omega
    refine ⟨.slice a off n (.ex n), ?_, Row.of hg hlt.symm (by rw [hlt]; exact hfm) (by rw [hlt]; omega), Nat.le_refl n, fun b hb => hb, ⟨Nat.le_refl n, fun h => by omega⟩⟩
    simp only [cutL, Option.getD_none, Option.getD_some, Option.isSome_some]
    rw [if_pos ⟨by omega, by omega⟩]
    cases cap with
    | ex c =>
      simp only [cutS]
      rw [if_pos ⟨trivial, Int.le_refl _, hcc⟩]
      simp
    | op e' =>
      have he : e' = E.e := hc
      subst he
      simp only [cutS]
      rw [if_pos ⟨trivial, Int.le_refl _, hcc, trivial⟩]
      simp
theorem flat1 {A B : Type} (f : A → B) : ∀ (l : List A), (l.flatMap fun n => [f n]) = l.map f
  | [] => rfl
  | x :: l => by simp only [List.flatMap_cons, flat1 f l, List.map_cons]; rfl
theorem flat_set {E : Enc X} {x y : X} {v : LV} {j : Nat} (hj : j < E.e) (hy : E.f y = (E.f x).set j v) : ∀ {l : List X} {k : Nat}, l[k]? = some x → (l.set k y).flatMap E.f = (l.flatMap E.f).set (k * E.e + j) v
  | [], _, h => by simp at h
  | z :: l, 0, h => by
    simp only [List.getElem?_cons_zero, Option.some.injEq] at h
    subst h
    simp only [List.set_cons_zero, List.flatMap_cons, hy, Nat.zero_mul, Nat.zero_add]
    rw [List.set_append_left _ _ (by rw [E.len]; exact hj)]
  | z :: l, k + 1, h => by
    have ih := flat_set hj hy (l := l) (k := k) (by simpa using h)
    simp only [List.set_cons_succ, List.flatMap_cons, ih]
    rw [List.set_append_right _ _ (by rw [E.len, Nat.succ_mul]; omega), E.len]
    congr 2
    rw [Nat.succ_mul]; omega
/-- A field of an element is stored. -/
theorem Row.stf (h : Row g V E l) (hm : Mine g V) {k : Nat} {x y : X} {j : Nat} {v : LV} (hx : l[k]? = some x) (hj : j < E.e) (hy : E.f y = (E.f x).set j v) :
    ∃ a off vs own, V.at E.e k = .ptr a off ∧ V.obj = some a ∧ g.get a = some (.cells vs own) ∧ setO g a (off + j) v (some (.cells vs own)) = some (g.set a (.cells (vs.set (off + j) v) own)) ∧ Row (g.set a (.cells (vs.set (off + j) v) own)) V E (l.set k y) ∧
      (Grow g V E.e → Grow (g.set a (.cells (vs.set (off + j) v) own)) V E.e) ∧ Mine (g.set a (.cells (vs.set (off + j) v) own)) V := by
  have hi := (List.getElem?_eq_some_iff.1 hx).1
  rcases h with ⟨rfl, _⟩ | ⟨a, off, cap, vs, own, rfl, hg, hv, hl⟩
  · simp at hi
  · obtain ⟨vs', own', hg', ho⟩ := hm
    rw [hg] at hg'
    cases hg'
    have h2 : (k + 1) * E.e ≤ l.length * E.e := Nat.mul_le_mul_right _ hi
    have h3 : (k + 1) * E.e = k * E.e + E.e := Nat.succ_mul _ _
    have hlt : off + k * E.e + j < vs.length := by omega
    refine ⟨a, off + k * E.e, vs, own, rfl, rfl, hg, ?_, ?_, ?_, ⟨_, own, get_set_eq _ _ _, ho⟩⟩
    · rw [set_o, List.getElem?_eq_getElem hlt, st_o _ _ ho]
    · refine Row.of (get_set_eq _ _ _) (by simp) ?_ (by simpa using hl)
      rw [flat_set hj hy hx, ← hv, List.length_set, List.drop_set, if_neg (by omega), List.take_set]
      congr 1
      omega
    · intro hG
      cases cap with
      | ex c =>
        refine ⟨hG.1, fun hn => ?_⟩
        obtain ⟨vs', own', h1, h2, h3⟩ := hG.2 hn
        rw [hg] at h1
        cases h1
        exact ⟨_, own, get_set_eq _ _ _, ho, by simpa using h3⟩
      | op e' =>
        obtain ⟨h0, vs', h1⟩ := hG
        rw [hg] at h1
        cases h1
        exact ⟨h0, _, get_set_eq _ _ _⟩
/-- Bytes as a text. -/
def textOf (bs : List Int) : List UInt8 := bs.map fun n => UInt8.ofNat n.toNat
theorem Row.text {V : LV} {bs : List Int} (h : Row g V byteE bs) {s d e : TypeId} (h1 : P.underlying s = some (.slice e)) (h2 : P.underlying d = some .string) (h3 : P.underlying e = some (.int .u8)) : convL P s d V g = some (.str (textOf bs), g) := by
  have hm : ∀ (l : List Int), (l.map fun n => LV.int .u8 n).mapM (fun (c : LV) => match c with | .int .u8 n => some (UInt8.ofNat n.toNat) | _ => none) = some (textOf l) := by
    intro l
    induction l with
    | nil => rfl
    | cons x l ih => simp only [List.map_cons, List.mapM_cons, ih]; rfl
  rcases h with ⟨rfl, rfl | ⟨a, off, alt, z, b, rfl⟩⟩ | ⟨a, off, cap, vs, own, rfl, hg, hv, hl⟩
  · simp only [convL, h1, h2, h3]; rfl
  · simp only [convL, h1, h2, h3]; rfl
  · have he : byteE.e = 1 := rfl
    rw [he, Nat.mul_one] at hv hl
    have hf : bs.flatMap byteE.f = bs.map fun n => LV.int .u8 n := flat1 _ bs
    simp only [convL, h1, h2, h3, hg, if_pos hl, hv, hf]
    exact congrArg (Option.map fun s => (LV.str s, g)) (hm bs)
theorem text_inj {as bs : List Int} (ha : ∀ x ∈ as, 0 ≤ x ∧ x < 256) (hb : ∀ x ∈ bs, 0 ≤ x ∧ x < 256) (h : textOf as = textOf bs) : as = bs := by
  induction as generalizing bs with
  | nil => cases bs with
    | nil => rfl
    | cons y bs => cases h
  | cons x as ih =>
    cases bs with
    | nil => cases h
    | cons y bs =>
      simp only [textOf, List.map_cons, List.cons.injEq] at h
      have hx := ha x (by simp)
      have hy := hb y (by simp)
      have e : x.toNat = y.toNat := by
        have := congrArg UInt8.toNat h.1
        simp only [UInt8.toNat_ofNat'] at this
        omega
      rw [show x = y by omega, ih (fun z hz => ha z (by simp [hz])) (fun z hz => hb z (by simp [hz])) h.2]

end Go.Lm

/-
  The logical machine, part 6: rows that are handed in.
-/
namespace Go.Lm

variable {P : Program} {g : LHeap} {X : Type} {E : Enc X} {V : LV}

theorem alls_map {n len : Nat} {e : TypeId} {Q : X → Prop} (hE : ∀ ys, Shp P g n e ys → ∃ x, ys = E.f x ∧ Q x) : ∀ {len : Nat} {xss : List (List LV)}, Alls (Shp P g n) (List.replicate len e) xss → ∃ l : List X, xss = l.map E.f ∧ l.length = len ∧ ∀ x ∈ l, Q x
  | 0, [], _ => ⟨[], rfl, rfl, fun _ h => by cases h⟩
  | 0, _ :: _, h => h.elim
  | len + 1, [], h => h.elim
  | len + 1, ys :: yss, h => by
    obtain ⟨x, rfl, hx⟩ := hE ys h.1
    obtain ⟨l, rfl, hl, hq⟩ := alls_map hE (len := len) h.2
    refine ⟨x :: l, rfl, by simp [hl], fun y hy => ?_⟩
    rcases List.mem_cons.1 hy with rfl | hy
    · exact hx
    · exact hq y hy
/-- A slice that is handed in. -/
def SlShp (P : Program) (g : LHeap) (n : Nat) (e : TypeId) (V : LV) : Prop := V = .nils ∨ (∃ a, V = .tail a 0 0 1 true) ∨
  ∃ a len cap xss, V = .slice a 0 len (.ex cap) ∧ len ≤ cap ∧ (cap ≤ maxLen ∧ cap * P.bytesOf e ≤ reachBytes) ∧ g.get a = some (.cells xss.flatten .ro) ∧ (∀ ys ∈ xss, ys.length = P.cellsOf e) ∧ Alls (Shp P g n) (List.replicate len e) xss
theorem shp_row {n : Nat} {e : TypeId} {Q : X → Prop} (hE : ∀ ys, Shp P g n e ys → ∃ x, ys = E.f x ∧ Q x) (h : SlShp P g n e V) : ∃ l, Row g V E l ∧ (∀ x ∈ l, Q x) ∧ Capd V E.e ∧ l.length ≤ maxLen ∧ l.length * P.bytesOf e ≤ reachBytes := by
  rcases h with rfl | ⟨a, rfl⟩ | ⟨a, len, cap, xss, rfl, h1, h2, hg, _, hA⟩
  · exact ⟨[], Row.nils _ _, fun _ h => (by cases h), trivial, Nat.zero_le _, by simp⟩
  · exact ⟨[], .inl ⟨rfl, .inr ⟨_, _, _, _, _, rfl⟩⟩, fun _ h => (by cases h), trivial, Nat.zero_le _, by simp⟩
  · obtain ⟨l, rfl, rfl, hq⟩ := alls_map (len := len) hE hA
    refine ⟨l, Row.of hg rfl ?_ ?_, hq, h1, Nat.le_trans h1 h2.1, Nat.le_trans (Nat.mul_le_mul_right _ h1) h2.2⟩
    · rw [List.drop_zero, ← List.flatMap_def, List.take_of_length_le (by rw [flat_len]; exact Nat.le_refl _)]
    · rw [← List.flatMap_def, flat_len]; omega
theorem shp_ints {n : Nat} {e : TypeId} {k : IntKind} (hu : P.underlying e = some (.int k)) (ys : List LV) (h : Shp P g (n + 1) e ys) : ∃ x : Int, ys = [.int k x] ∧ k.min ≤ x ∧ x ≤ k.max := by
  unfold Shp at h
  rw [hu] at h
  exact h
theorem shp_fields {n : Nat} {e : TypeId} {fs : Array Field} (hu : P.underlying e = some (.struct fs)) {ys : List LV} (h : Shp P g (n + 1) e ys) : ∃ xss, ys = xss.flatten ∧ Alls (Shp P g n) (fs.toList.map (·.type)) xss := by
  unfold Shp at h
  rw [hu] at h
  exact h
theorem all2_of {A B : Type} {R : A → B → Prop} {S : B → Prop} : ∀ {as : List A}, (∀ a ∈ as, ∃ b, R a b ∧ S b) → ∃ bs, All2 R as bs ∧ ∀ b ∈ bs, S b
  | [], _ => ⟨[], trivial, fun _ h => by cases h⟩
  | a :: as, h => by
    obtain ⟨b, hb, hS⟩ := h a (by simp)
    obtain ⟨bs, h1, h2⟩ := all2_of (as := as) fun a ha => h a (by simp [ha])
    refine ⟨b :: bs, ⟨hb, h1⟩, fun c hc => ?_⟩
    rcases List.mem_cons.1 hc with rfl | hc
    · exact hS
    · exact h2 c hc

end Go.Lm

/-
  The logical machine, part 7: maps with keys of one kind.
-/
namespace Go.Lm

set_option linter.unusedSimpArgs false
variable {P : Program} {g : LHeap} {κ : Type}

/-- Keys of a map's type: told apart as they are. -/
structure Key (P : Program) (kt : TypeId) (κ : Type) where
  k : κ → LV
  eq : ∀ a b, ∃ r, eqTy P 60 kt (k a) (k b) = some r ∧ (r = true ↔ a = b)
  chk : ∀ a, checkKeyL P 60 kt (k a) = true
  same : ∀ a, sameL (k a) (k a) = true
abbrev KV (κ : Type) := List (κ × LV × Nat)
def encM (f : κ → LV) (kv : KV κ) : List (LV × LV × Nat) := kv.map fun e => (f e.1, e.2.1, e.2.2)
/-- The entries of a map: no key twice, no stamp twice, each older than the clock. -/
structure MapAt (g : LHeap) (m : Nat) (f : κ → LV) (kv : KV κ) : Prop where
  at_ : ∃ clock, g.get m = some (.map (encM f kv) clock .ex) ∧ ∀ e ∈ kv, e.2.2 < clock
  keys : (kv.map (·.1)).Nodup
  stamps : (kv.map (·.2.2)).Nodup
theorem kv_cases (kv : KV κ) (k : κ) : (∀ e ∈ kv, e.1 ≠ k) ∨ ∃ a v s b, kv = a ++ (k, v, s) :: b ∧ ∀ e ∈ a, e.1 ≠ k := by
  induction kv with
  | nil => exact .inl fun e h => by cases h
  | cons e kv ih =>
    by_cases he : e.1 = k
    · obtain ⟨k', v, s⟩ := e
      simp only at he
      subst he
      exact .inr ⟨[], v, s, kv, rfl, fun e h => by cases h⟩
    · rcases ih with h | ⟨a, v, s, b, rfl, h⟩
      · refine .inl fun x hx => ?_
        rcases List.mem_cons.1 hx with rfl | hx
        · exact he
        · exact h x hx
      · refine .inr ⟨e :: a, v, s, b, rfl, fun x hx => ?_⟩
        rcases List.mem_cons.1 hx with rfl | hx
        · exact he
        · exact h x hx
theorem find_none {kt : TypeId} (K : Key P kt κ) {k : κ} : ∀ {kv : KV κ} (i : Nat), (∀ e ∈ kv, e.1 ≠ k) → findL P kt (K.k k) (encM K.k kv) i = some none
  | [], _, _ => rfl
  | e :: kv, i, h => by
    obtain ⟨r, hr, hi⟩ := K.eq k e.1
    have : r = false := by
      cases r with
      | false => rfl
      | true => exact absurd (hi.1 rfl).symm (h e (by simp))
    subst this
    simp only [encM, List.map_cons, findL, hr]
    exact find_none K (i + 1) fun x hx => h x (by simp [hx])
theorem find_some {kt : TypeId} (K : Key P kt κ) {k : κ} {v : LV} {s : Nat} {b : KV κ} : ∀ {a : KV κ} (i : Nat), (∀ e ∈ a, e.1 ≠ k) → findL P kt (K.k k) (encM K.k (a ++ (k, v, s) :: b)) i = some (some (i + a.length, v))
  | [], i, _ => by
    obtain ⟨r, hr, hi⟩ := K.eq k k
    have : r = true := hi.2 rfl
    subst this
    simp only [encM, List.nil_append, List.map_cons, findL, hr, List.length_nil, Nat.add_zero]
  | e :: a, i, h => by
    obtain ⟨r, hr, hi⟩ := K.eq k e.1
    have : r = false := by
      cases r with
      | false => rfl
      | true => exact absurd (hi.1 rfl).symm (h e (by simp))
    subst this
    simp only [encM, List.cons_append, List.map_cons, findL, hr]
    have := find_some K (v := v) (s := s) (b := b) (a := a) (i + 1) fun x hx => h x (by simp [hx])
    rw [show i + 1 + a.length = i + (e :: a).length by simp only [List.length_cons]; omega] at this
    exact this
open Classical in
/-- What stands at a key. -/
noncomputable def look (kv : KV κ) (k : κ) : Option LV := (kv.find? fun e => decide (e.1 = k)).map (·.2.1)
open Classical in
noncomputable def upd {β : Type} (mp : κ → β) (k : κ) (v : β) : κ → β := fun k' => if k' = k then v else mp k'
theorem upd_at {β : Type} (mp : κ → β) (k : κ) (v : β) : upd mp k v k = v := if_pos rfl
theorem upd_ne {β : Type} (mp : κ → β) {k k' : κ} (v : β) (h : k' ≠ k) : upd mp k v k' = mp k' := if_neg h
theorem look_none {kv : KV κ} {k : κ} (h : ∀ e ∈ kv, e.1 ≠ k) : look kv k = none := by
  unfold look
  rw [List.find?_eq_none.2]
  · rfl
  · intro e he; simpa using h e he
theorem look_app (a b : KV κ) (k : κ) : look (a ++ b) k = (look a k).or (look b k) := by
  unfold look
  rw [List.find?_append]
  cases List.find? _ a <;> simp
theorem look_hd {e : κ × LV × Nat} {b : KV κ} {k : κ} (h : e.1 = k) : look (e :: b) k = some e.2.1 := by
  unfold look
  rw [List.find?_cons]
  simp [h]
theorem look_tl {e : κ × LV × Nat} {b : KV κ} {k : κ} (h : e.1 ≠ k) : look (e :: b) k = look b k := by
  unfold look
  rw [List.find?_cons]
  simp [h]
theorem look_some {a b : KV κ} {k : κ} {v : LV} {s : Nat} (h : ∀ e ∈ a, e.1 ≠ k) : look (a ++ (k, v, s) :: b) k = some v := by
  rw [look_app, look_none h, look_hd rfl]; rfl
/-- A map: what stands at each key, and how many there are. -/
def MapIs (g : LHeap) (m : Nat) (f : κ → LV) (mp : κ → Option LV) (n : Nat) : Prop := ∃ kv, MapAt g m f kv ∧ (∀ k, look kv k = mp k) ∧ kv.length = n
theorem MapIs.fr {m : Nat} {f : κ → LV} {mp : κ → Option LV} {n : Nat} (h : MapIs g m f mp n) {g' : LHeap} (e : g'.get m = g.get m) : MapIs g' m f mp n := by
  obtain ⟨kv, ⟨⟨c, h1, h2⟩, h3, h4⟩, h5⟩ := h
  exact ⟨kv, ⟨⟨c, e.trans h1, h2⟩, h3, h4⟩, h5⟩
theorem MapIs.new (g : LHeap) (f : κ → LV) : MapIs (g.alloc (.map [] 0 .ex)) g.next f (fun _ => none) 0 :=
  ⟨[], ⟨⟨0, get_alloc_eq _ _, fun _ h => by cases h⟩, List.nodup_nil, List.nodup_nil⟩, fun _ => rfl, rfl⟩
theorem MapIs.len {m : Nat} {f : κ → LV} {mp : κ → Option LV} {n : Nat} (h : MapIs g m f mp n) {t k e : TypeId} (hu : P.underlying t = some (.map k e)) : lenL P t (.map m) g = some (.int .i64 n) := by
  obtain ⟨kv, ⟨⟨c, h1, _⟩, _, _⟩, _, h5⟩ := h
  rw [len_map hu h1]
  simp [encM, h5]
theorem shape_of {t kt et : TypeId} (hu : P.underlying t = some (.map kt et)) : mapShape P t = some (kt, et) := by simp [mapShape, hu]
theorem MapIs.lookup {m : Nat} {mp : κ → Option LV} {n : Nat} {t kt et : TypeId} {z : LV} (K : Key P kt κ) (h : MapIs g m K.k mp n) (hu : P.underlying t = some (.map kt et)) (hz : zeroL P et = some z) (k : κ) (ok : Bool) :
    lookupL P t (.map m) (K.k k) ok g = some (match mp k with | some v => (if ok then .tuple [v, .bool true] else v) | none => (if ok then .tuple [z, .bool false] else z)) := by
  obtain ⟨kv, ⟨⟨c, h1, _⟩, _, _⟩, h4, h5⟩ := h
  simp only [lookupL, shape_of hu, K.chk k, if_true, h1]
  rw [← h4 k]
  rcases kv_cases kv k with hn | ⟨a, v, s, b, rfl, hn⟩
  · rw [find_none K 0 hn, look_none hn]
    simp only [hz]
  · rw [find_some K 0 hn, look_some hn]
theorem nodup_mid {a b : KV κ} {k : κ} {v : LV} {s : Nat} (h : ((a ++ (k, v, s) :: b).map (·.1)).Nodup) : (∀ e ∈ a, e.1 ≠ k) ∧ ∀ e ∈ b, e.1 ≠ k := by
  rw [List.map_append, List.map_cons, List.nodup_append] at h
  obtain ⟨_, h2, h3⟩ := h
  rw [List.nodup_cons] at h2
  refine ⟨fun e he hk => ?_, fun e he hk => h2.1 (hk ▸ List.mem_map.2 ⟨e, he, rfl⟩)⟩
  exact h3 e.1 (List.mem_map.2 ⟨e, he, rfl⟩) k (by simp) hk
theorem look_mid {a b : KV κ} {k : κ} {v v' : LV} {s s' : Nat} (h : ∀ e ∈ a, e.1 ≠ k) : look (a ++ (k, v', s') :: b) = upd (look (a ++ (k, v, s) :: b)) k (some v') := by
  funext k'
  by_cases hk : k' = k
  · subst hk; rw [upd_at, look_some h]
  · rw [upd_ne _ _ hk, look_app, look_app, look_tl (Ne.symm hk), look_tl (Ne.symm hk)]
theorem set_mid {f : κ → LV} {a b : KV κ} {k : κ} {v v' : LV} {s : Nat} : (encM f (a ++ (k, v, s) :: b)).set a.length (f k, v', s) = encM f (a ++ (k, v', s) :: b) := by
  simp only [encM, List.map_append, List.map_cons]
  rw [List.set_append_right _ _ (by simp)]
  simp
theorem enc_mid {f : κ → LV} {a b : KV κ} {k : κ} {v : LV} {s : Nat} : (encM f (a ++ (k, v, s) :: b))[a.length]? = some (f k, v, s) := by
  simp only [encM, List.map_append, List.map_cons]
  rw [List.getElem?_append_right (by simp)]
  simp
theorem MapIs.set {m : Nat} {mp : κ → Option LV} {n : Nat} {t kt et : TypeId} (K : Key P kt κ) (h : MapIs g m K.k mp n) (hu : P.underlying t = some (.map kt et)) (k : κ) (v : LV) :
    ∃ H, mapSetL P t (.map m) (K.k k) v g = some H ∧ MapIs H m K.k (upd mp k (some v)) (match mp k with | some _ => n | none => n + 1) ∧ Fr (fun a => a = m) g H := by
  obtain ⟨kv, ⟨⟨c, h1, h2⟩, h3, h3'⟩, h4, h5⟩ := h
  obtain rfl : look kv = mp := funext h4
  have ho : Own.ex ≠ Own.ro ∧ checkKeyL P 60 kt (K.k k) = true := ⟨by decide, K.chk k⟩
  simp only [mapSetL, shape_of hu, h1]
  rw [if_pos ho]
  rcases kv_cases kv k with hn | ⟨a, w, s, b, rfl, hn⟩
  · rw [find_none K 0 hn]
    refine ⟨_, rfl, ⟨kv ++ [(k, v, c)], ⟨⟨c + 1, ?_, ?_⟩, ?_, ?_⟩, ?_, ?_⟩, Fr.set _ rfl⟩
    · rw [get_set_eq]; simp [encM]
    · intro e he
      rcases List.mem_append.1 he with he | he
      · exact Nat.lt_succ_of_lt (h2 e he)
      · simp only [List.mem_singleton] at he; subst he; exact Nat.lt_succ_self _
    · rw [List.map_append, List.nodup_append]
      refine ⟨h3, by simp, fun x hx y hy => ?_⟩
      obtain ⟨e, he, rfl⟩ := List.mem_map.1 hx
      simp only [List.map_cons, List.map_nil, List.mem_singleton] at hy
      subst hy
      exact hn e he
    · rw [List.map_append, List.nodup_append]
      refine ⟨h3', by simp, fun x hx y hy => ?_⟩
      obtain ⟨e, he, rfl⟩ := List.mem_map.1 hx
      simp only [List.map_cons, List.map_nil, List.mem_singleton] at hy
      subst hy
      exact Nat.ne_of_lt (h2 e he)
    · intro k'
      by_cases hk : k' = k
      · subst hk; rw [upd_at, look_some hn]
      · rw [upd_ne _ _ hk, look_app, look_tl (Ne.symm hk)]
        cases look kv k' <;> rfl
    · rw [look_none hn, List.length_append, h5]; rfl
  · rw [find_some K 0 hn, Nat.zero_add]
    simp only [setAt, enc_mid, K.same k, if_true, Option.map_some]
    rw [set_mid]
    refine ⟨_, rfl, ⟨a ++ (k, v, s) :: b, ⟨⟨c, get_set_eq _ _ _, ?_⟩, ?_, ?_⟩, fun k' => congrFun (look_mid hn) k', ?_⟩, Fr.set _ rfl⟩
    · intro e he
      rcases List.mem_append.1 he with he | he
      · exact h2 e (List.mem_append.2 (.inl he))
      · rcases List.mem_cons.1 he with rfl | he
        · exact h2 (k, w, s) (List.mem_append.2 (.inr (by simp)))
        · exact h2 e (List.mem_append.2 (.inr (List.mem_cons_of_mem _ he)))
    · simpa using h3
    · simpa using h3'
    · rw [look_some hn, ← h5]; simp
theorem erase_mid {f : κ → LV} {a b : KV κ} {k : κ} {v : LV} {s : Nat} : (encM f (a ++ (k, v, s) :: b)).eraseIdx a.length = encM f (a ++ b) := by
  simp only [encM, List.map_append, List.map_cons]
  rw [List.eraseIdx_append_of_length_le (by simp)]
  simp
theorem MapIs.del {m : Nat} {mp : κ → Option LV} {n : Nat} {t kt et : TypeId} (K : Key P kt κ) (h : MapIs g m K.k mp n) (hu : P.underlying t = some (.map kt et)) (k : κ) (ts : List TypeId) :
    ∃ H, builtinL P .delete (t :: ts) [.map m, K.k k] g = some (undefL, H) ∧ MapIs H m K.k (upd mp k none) (match mp k with | some _ => n - 1 | none => n) ∧ Fr (fun a => a = m) g H := by
  obtain ⟨kv, ⟨⟨c, h1, h2⟩, h3, h3'⟩, h4, h5⟩ := h
  obtain rfl : look kv = mp := funext h4
  have hb : builtinL P .delete (t :: ts) [.map m, K.k k] g = (deleteL P t (.map m) (K.k k) g).map fun g => (undefL, g) := rfl
  rw [hb]
  simp only [deleteL, shape_of hu, K.chk k, if_true, h1]
  rw [if_pos (by decide)]
  rcases kv_cases kv k with hn | ⟨a, w, s, b, rfl, hn⟩
  · rw [find_none K 0 hn]
    refine ⟨g, rfl, ⟨kv, ⟨⟨c, h1, h2⟩, h3, h3'⟩, fun k' => ?_, ?_⟩, Fr.refl _ _⟩
    · by_cases hk : k' = k
      · subst hk; rw [upd_at, look_none hn]
      · rw [upd_ne _ _ hk]
    · rw [look_none hn, h5]
  · rw [find_some K 0 hn, Nat.zero_add, Option.map_some, erase_mid]
    have hb := (nodup_mid h3).2
    refine ⟨_, rfl, ⟨a ++ b, ⟨⟨c, get_set_eq _ _ _, fun e he => h2 e ?_⟩, ?_, ?_⟩, fun k' => ?_, ?_⟩, Fr.set _ rfl⟩
    · rcases List.mem_append.1 he with he | he
      · exact List.mem_append.2 (.inl he)
      · exact List.mem_append.2 (.inr (List.mem_cons_of_mem _ he))
    · exact h3.sublist ((List.Sublist.append_left (List.sublist_cons_self _ _) _).map _)
    · exact h3'.sublist ((List.Sublist.append_left (List.sublist_cons_self _ _) _).map _)
    · by_cases hk : k' = k
      · subst hk
        rw [upd_at, look_none]
        intro e he
        rcases List.mem_append.1 he with he | he
        · exact hn e he
        · exact hb e he
      · rw [upd_ne _ _ hk, look_app, look_app, look_tl (Ne.symm hk)]
    · rw [look_some hn, ← h5]; simp

/-- The place of a key in a map, by its stamp. -/
structure Slot (g : LHeap) (m : Nat) (f : κ → LV) (k : κ) (st : Nat) (mp : κ → Option LV) (n : Nat) : Prop where
  is : ∃ kv a v b, MapAt g m f kv ∧ kv = a ++ (k, v, st) :: b ∧ (∀ k', k' ≠ k → look kv k' = mp k') ∧ kv.length = n
theorem Slot.fr {m : Nat} {f : κ → LV} {k : κ} {st n : Nat} {mp : κ → Option LV} (h : Slot g m f k st mp n) {g' : LHeap} (e : g'.get m = g.get m) : Slot g' m f k st mp n := by
  obtain ⟨kv, a, v, b, ⟨⟨c, h1, h2⟩, h3, h4⟩, h5⟩ := h.is
  exact ⟨kv, a, v, b, ⟨⟨c, e.trans h1, h2⟩, h3, h4⟩, h5⟩
theorem MapIs.entry {m : Nat} {mp : κ → Option LV} {n : Nat} {t kt et : TypeId} {z : LV} (K : Key P kt κ) (h : MapIs g m K.k mp n) (hu : P.underlying t = some (.map kt et)) (hz : zeroL P et = some z) (k : κ) :
    ∃ st H, mapEntryL P t (.map m) (K.k k) g = some (.tuple [(mp k).getD z, .int .i64 (st : Nat)], H) ∧ Slot H m K.k k st mp (match mp k with | some _ => n | none => n + 1) ∧ Fr (fun a => a = m) g H := by
  obtain ⟨kv, ⟨⟨c, h1, h2⟩, h3, h3'⟩, h4, h5⟩ := h
  obtain rfl : look kv = mp := funext h4
  have ho : Own.ex ≠ Own.ro ∧ checkKeyL P 60 kt (K.k k) = true := ⟨by decide, K.chk k⟩
  simp only [mapEntryL, shape_of hu, h1]
  rw [if_pos ho]
  rcases kv_cases kv k with hn | ⟨a, w, s, b, rfl, hn⟩
  · rw [find_none K 0 hn]
    simp only [hz, look_none hn, Option.getD_none]
    refine ⟨c, _, rfl, ⟨kv ++ [(k, z, c)], kv, z, [], ⟨⟨c + 1, ?_, ?_⟩, ?_, ?_⟩, rfl, ?_, ?_⟩, Fr.set _ rfl⟩
    · rw [get_set_eq]; simp [encM]
    · intro e he
      rcases List.mem_append.1 he with he | he
      · exact Nat.lt_succ_of_lt (h2 e he)
      · simp only [List.mem_singleton] at he; subst he; exact Nat.lt_succ_self _
    · rw [List.map_append, List.nodup_append]
      refine ⟨h3, by simp, fun x hx y hy => ?_⟩
      obtain ⟨e, he, rfl⟩ := List.mem_map.1 hx
      simp only [List.map_cons, List.map_nil, List.mem_singleton] at hy
      subst hy
      exact hn e he
    · rw [List.map_append, List.nodup_append]
      refine ⟨h3', by simp, fun x hx y hy => ?_⟩
      obtain ⟨e, he, rfl⟩ := List.mem_map.1 hx
      simp only [List.map_cons, List.map_nil, List.mem_singleton] at hy
      subst hy
      exact Nat.ne_of_lt (h2 e he)
    · intro k' hk
      rw [look_app, look_tl (Ne.symm hk)]
      cases look kv k' <;> rfl
    · simp [h5]
  · rw [find_some K 0 hn, Nat.zero_add]
    simp only [enc_mid, setAt, K.same k, if_true, Option.map_some, look_some hn, Option.getD_some]
    rw [set_mid]
    exact ⟨s, _, rfl, ⟨a ++ (k, w, s) :: b, a, w, b, ⟨⟨c, get_set_eq _ _ _, h2⟩, h3, h3'⟩, rfl, fun _ _ => rfl, h5⟩, Fr.set _ rfl⟩
theorem Slot.store {m : Nat} {f : κ → LV} {k : κ} {st n : Nat} {mp : κ → Option LV} (h : Slot g m f k st mp n) (v : LV) :
    ∃ H, entryStoreL (.map m) (.int .i64 (st : Nat)) v g = some H ∧ MapIs H m f (upd mp k (some v)) n ∧ Fr (fun a => a = m) g H := by
  obtain ⟨kv, a, w, b, ⟨⟨c, h1, h2⟩, h3, h4⟩, rfl, h5, h6⟩ := h.is
  have hi : (encM f (a ++ (k, w, st) :: b)).findIdx? (fun e => ((e.2.2 : Nat) : Int) == (st : Int)) = some a.length := by
    have hs : ∀ e ∈ a, e.2.2 ≠ st := fun e he hk => by
      rw [List.map_append, List.map_cons, List.nodup_append] at h4
      exact h4.2.2 e.2.2 (List.mem_map.2 ⟨e, he, rfl⟩) st (by simp) hk
    clear h1 h2 h3 h4 h5 h6
    induction a with
    | nil => simp [encM, List.findIdx?_cons]
    | cons e a ih =>
      have h0 := hs e (by simp)
      have ih := ih fun x hx => hs x (by simp [hx])
      simp only [encM, List.cons_append, List.map_cons, List.findIdx?_cons] at ih ⊢
      rw [if_neg (by simp; omega), ih]
      simp
  refine ⟨g.set m (.map (encM f (a ++ (k, v, st) :: b)) c .ex), ?_, ⟨a ++ (k, v, st) :: b, ⟨⟨c, get_set_eq _ _ _, ?_⟩, by simpa using h3, by simpa using h4⟩, fun k' => ?_, by simpa using h6⟩, Fr.set _ rfl⟩
  · simp only [entryStoreL, h1]
    rw [if_pos (by decide), hi]
    simp only [enc_mid]
    rw [set_mid]
  · intro e he
    rcases List.mem_append.1 he with he | he
    · exact h2 e (List.mem_append.2 (.inl he))
    · rcases List.mem_cons.1 he with rfl | he
      · exact h2 (k, w, st) (List.mem_append.2 (.inr (by simp)))
      · exact h2 e (List.mem_append.2 (.inr (List.mem_cons_of_mem _ he)))
  · have hn := (nodup_mid h3).1
    rw [look_mid (v := w) (s := st) hn]
    by_cases hk : k' = k
    · subst hk; rw [upd_at, upd_at]
    · rw [upd_ne _ _ hk, upd_ne _ _ hk, h5 k' hk]

end Go.Lm

/-
  The logical machine, part 8: what Go's own slice functions lean on.
-/
namespace Go.Lm

set_option linter.unusedSimpArgs false
variable {P : Program} {g : LHeap} {X : Type} {E : Enc X} {V : LV} {l : List X}

theorem Row.nil_or (h : Row g V E l) {t e : TypeId} (hu : P.underlying t = some (.slice e)) (lit : Bool) : (V = .nils ∧ l = []) ∨ (V ≠ .nils ∧ binL P .eql t lit V .nils = some (.bool false) ∧ binL P .neq t lit V .nils = some (.bool true)) := by
  have n := nil_s (P := P) hu lit
  rcases h with ⟨rfl, rfl | ⟨a, off, alt, z, b, rfl⟩⟩ | ⟨a, off, cap, vs, own, rfl, _⟩
  · exact .inl ⟨rfl, rfl⟩
  · exact .inr ⟨by simp, n.2.1 a off alt z b⟩
  · exact .inr ⟨by simp, n.1 a off _ cap⟩
/-- An empty row, new. -/
theorem Vec.empty (g : LHeap) (E : Enc X) : Vec E g.next (g.alloc (.cells [] .ex)) (.slice g.next 0 0 (.ex 0)) [] :=
  ⟨Row.of (get_alloc_eq _ _) rfl (by simp) (by simp), ⟨Nat.le_refl _, fun h => by omega⟩, fun a ha => by simp only [LV.obj, Option.some.injEq] at ha; subst ha; exact ⟨Nat.le_refl _, Nat.lt_succ_self _⟩⟩
/-- A fresh copy. -/
theorem Vec.clone' {bytes : Nat} (R : Row g V E l) (hlt : ∀ a, V.obj = some a → a < g.next) (hb : l.length * bytes * 2 ≤ 2 ^ 48 ∨ (l.length * 5 + 2048) * bytes ≤ 2 ^ 50) :
    ∃ V' h', appendL E.e bytes (.slice g.next 0 0 (.ex 0)) V (g.alloc (.cells [] .ex)) = some (V', h') ∧ Vec E g.next h' V' l ∧ Mine h' V' ∧ Fr noF g h' := by
  have R1 : Row (g.alloc (.cells [] .ex)) V E l := R.fr fun a ha => get_alloc_ne g _ (Nat.ne_of_lt (hlt a ha))
  obtain ⟨V', h', e, O, f, n, mi⟩ := (Vec.empty g E).app' (bytes := bytes) R1 (by simpa using hb) (Nat.le_succ _)
  refine ⟨V', h', e, by simpa using O, ?_, ?_⟩
  · by_cases hl : l = []
    · subst hl
      have : appendL E.e bytes (.slice g.next 0 0 (.ex 0)) V (g.alloc (.cells [] .ex)) = some (.slice g.next 0 0 (.ex 0), g.alloc (.cells [] .ex)) := by
        simp only [appendL, R1.src, (Vec.empty g E).row.src, (Vec.empty g E).row.not_str]
        rfl
      rw [this] at e
      cases e
      exact ⟨_, .ex, get_alloc_eq _ _, by decide⟩
    · exact mi hl
  · exact ⟨Nat.le_trans (Nat.le_succ _) f.le, fun a ha _ => (f.eq a (Nat.lt_succ_of_lt ha) (by simp only [LV.obj, Option.some.injEq]; omega)).trans (get_alloc_ne _ _ (Nat.ne_of_lt ha))⟩
theorem Row.lt_of (R : Row g V E l) (wf : g.Wf) (hl : l ≠ []) : ∀ a, V.obj = some a → a < g.next := fun a ha => by
  rcases R with ⟨h, _⟩ | ⟨b, off, cap, vs, own, rfl, hg, _⟩
  · exact absurd h hl
  · cases ha; exact wf.lt _ _ hg
theorem Vec.clone {bytes : Nat} (R : Row g V E l) (wf : g.Wf) (hb : l.length * bytes * 2 ≤ 2 ^ 48 ∨ (l.length * 5 + 2048) * bytes ≤ 2 ^ 50) :
    ∃ V' h', appendL E.e bytes (.slice g.next 0 0 (.ex 0)) V (g.alloc (.cells [] .ex)) = some (V', h') ∧ Vec E g.next h' V' l ∧ Mine h' V' ∧ Fr noF g h' := by
  rcases R with ⟨rfl, h⟩ | ⟨b, off, cap, vs, own, rfl, hg, hv, hl⟩
  · obtain ⟨V', h', e, r⟩ := Vec.clone' (bytes := bytes) (Row.nils g E) (fun a ha => by cases ha) hb
    refine ⟨V', h', ?_, r⟩
    rw [← e]
    rcases h with rfl | ⟨a, off, alt, z, b, rfl⟩
    · rfl
    · simp only [appendL, srcCells]
  · exact Vec.clone' (.inr ⟨b, off, cap, vs, own, rfl, hg, hv, hl⟩) (fun a ha => by cases ha; exact wf.lt _ _ hg) hb
/-- Where the cut from i on stands. -/
theorem Row.tailcut (h : Row g V E l) (hm : Mine g V) (hc : Capd V E.e) {i : Nat} (hi : i ≤ l.length) {z : X} {t et : TypeId} {zv : LV} (hu : P.underlying t = some (.slice et)) (hz : zeroL P et = some zv) (hzz : zv.cells = E.f z) :
    ∃ U H, cutL E.e V (some (i : Int)) none none (limL V g) = some U ∧ clearL P t U g = some H ∧ Row H V E (l.take i ++ List.replicate (l.length - i) z) ∧ (Grow g V E.e → Grow H V E.e) ∧ Mine H V ∧ Fr (fun a => V.obj = some a) g H := by
  have hE := E.pos
  rcases h with ⟨rfl, rfl | ⟨a, off, alt, z', b, rfl⟩⟩ | ⟨a, off, cap, vs, own, rfl, hg, hv, hl⟩
  · obtain rfl : i = 0 := by simpa using hi
    exact ⟨.nils, g, by simp [cutL], by simp [clearL, hu], Row.nils _ _, id, trivial, Fr.refl _ _⟩
  · obtain rfl : i = 0 := by simpa using hi
    exact ⟨.tail a off alt z' b, g, by simp [cutL], by simp [clearL, hu], .inl ⟨rfl, .inr ⟨_, _, _, _, _, rfl⟩⟩, id, trivial, Fr.refl _ _⟩
  · obtain ⟨vs', own', hg', ho⟩ := hm
    rw [hg] at hg'
    cases hg'
    have e2 : ((i : Int)).toNat = i := by omega
    have e1 : ((l.length : Int) - i).toNat = l.length - i := by omega
    have same : i = l.length → l.take i ++ List.replicate (l.length - i) z = l := fun h => by subst h; simp
    -- the cut
    have hcut : ∃ U, cutL E.e (.slice a off l.length cap) (some (i : Int)) none none (limL (.slice a off l.length cap) g) = some U ∧ ((i < l.length ∧ ∃ c, U = .slice a (off + i * E.e) (l.length - i) c) ∨ (i = l.length ∧ ∀ P' : Program, P'.underlying t = some (.slice et) → zeroL P' et = some zv → clearL P' t U g = some g)) := by
      simp only [cutL, Option.getD_some, Option.getD_none, Option.isSome_none]
      rw [if_pos ⟨by omega, by omega⟩]
      cases cap with
      | ex c =>
        have hcc : l.length ≤ c := hc
        simp only [cutS]
        rw [if_pos (by omega)]
        refine ⟨_, rfl, ?_⟩
        by_cases hlt : i < l.length
        · refine .inl ⟨hlt, _, by rw [if_neg (by omega), e1, e2]⟩
        · refine .inr ⟨by omega, fun P' hu' hz' => ?_⟩
          have : ((l.length : Int) - i).toNat = 0 := by omega
          simp [clearL, hu', hz', this]
      | op e' =>
        have he : e' = E.e := hc
        subst he
        simp only [cutS]
        rw [if_pos ⟨by omega, trivial⟩]
        by_cases hlt : i < l.length
        · exact ⟨_, by rw [if_pos (by omega)], .inl ⟨hlt, _, by rw [e1, e2]⟩⟩
        · by_cases hx : (i : Int) < ((max l.length (limL (.slice a off l.length (.op E.e)) g) : Nat) : Int)
          · refine ⟨_, by rw [if_pos hx], .inr ⟨by omega, fun P' hu' hz' => ?_⟩⟩
            have : ((l.length : Int) - i).toNat = 0 := by omega
            simp [clearL, hu', hz', this]
          · exact ⟨_, by rw [if_neg hx], .inr ⟨by omega, fun P' hu' hz' => by simp [clearL, hu']⟩⟩
    obtain ⟨U, hU, hcase⟩ := hcut
    rcases hcase with ⟨hlt, c, rfl⟩ | ⟨he, hcl⟩
    · have hrep : (List.replicate (l.length - i) zv.cells).flatten = (List.replicate (l.length - i) z).flatMap E.f := by
        rw [hzz]
        generalize l.length - i = k
        induction k with
        | zero => rfl
        | succ k ih => simp only [List.replicate_succ, List.flatten_cons, List.flatMap_cons, ih]
      have hrl : ((List.replicate (l.length - i) z).flatMap E.f).length = (l.length - i) * E.e := by rw [flat_len]; simp
      have hsum : i * E.e + (l.length - i) * E.e = l.length * E.e := by rw [← Nat.add_mul]; congr 1; omega
      have hfit : off + i * E.e + ((List.replicate (l.length - i) z).flatMap E.f).length ≤ vs.length := by rw [hrl]; omega
      refine ⟨_, g.set a (.cells (splice vs (off + i * E.e) ((List.replicate (l.length - i) z).flatMap E.f)) own), hU, ?_, ?_, ?_, ⟨_, own, get_set_eq _ _ _, ho⟩, Fr.set _ rfl⟩
      · simp only [clearL, hu, hz]
        rw [if_neg (by omega), hrep]
        simp only [storeCellsL, hg]
        rw [if_pos ⟨ho, hfit, List.all_eq_true.2 (flat_cell E _)⟩]
      · have htl : (l.take i ++ List.replicate (l.length - i) z).length = l.length := by simp; omega
        refine Row.of (get_set_eq _ _ _) htl.symm ?_ (by rw [splice_len hfit, htl]; exact hl)
        rw [htl, List.flatMap_append, ← hsum, ← hrl, splice_take hfit rfl]
        congr 1
        have : (vs.drop off).take (i * E.e) = (l.flatMap E.f).take (i * E.e) := by
          rw [← hv, List.take_take]; congr 1; omega
        rw [this]
        have h2 : ∀ (l : List X) (k : Nat), (l.take k).flatMap E.f = (l.flatMap E.f).take (k * E.e) := by
          intro l k
          induction l generalizing k with
          | nil => simp
          | cons x l ih =>
            cases k with
            | zero => simp
            | succ k =>
              simp only [List.take_succ_cons, List.flatMap_cons, ih]
              rw [List.take_append, E.len, show (k + 1) * E.e - E.e = k * E.e by rw [Nat.succ_mul]; omega, List.take_of_length_le (l := E.f x) (by rw [E.len, Nat.succ_mul]; omega)]
        rw [h2]
      · intro hG
        cases cap with
        | ex c =>
          refine ⟨hG.1, fun hn => ?_⟩
          obtain ⟨vs', own', h1, h2, h3⟩ := hG.2 hn
          rw [hg] at h1
          cases h1
          exact ⟨_, own, get_set_eq _ _ _, ho, by rw [splice_len hfit]; exact h3⟩
        | op e' =>
          obtain ⟨h0, vs', h1⟩ := hG
          rw [hg] at h1
          cases h1
          exact ⟨h0, _, get_set_eq _ _ _⟩
    · refine ⟨U, g, hU, hcl P hu hz, ?_, id, ⟨vs, own, hg, ho⟩, Fr.refl _ _⟩
      rw [same he]
      exact .inr ⟨a, off, cap, vs, own, rfl, hg, hv, hl⟩

/-- l[:j] of what may be appended to may be appended to. -/
theorem cut_grow {w : Nat} (R : Row g V E l) (hl : 0 < l.length) (hG : Grow g V E.e) (hm : Mine g V) {U : LV} (h : cutL E.e V none (some (w : Int)) none (limL V g) = some U) : Grow g U E.e := by
  rcases R with ⟨rfl, _⟩ | ⟨a, off, cap, vs, own, rfl, hg, hv, hfit⟩
  · simp at hl
  · obtain ⟨vs', own', hg', ho⟩ := hm
    rw [hg] at hg'
    cases hg'
    simp only [cutL, Option.getD_none, Option.getD_some, Option.isSome_some] at h
    split at h
    · cases cap with
      | ex c =>
        simp only [cutS] at h
        split at h
        · cases h
          refine ⟨by omega, fun hn => ⟨vs, own, hg, ho, ?_⟩⟩
          have hc : off + c * E.e ≤ vs.length := by
            by_cases hnc : l.length < c
            · obtain ⟨vs', own', h1, h2, h3⟩ := hG.2 hnc
              rw [hg] at h1
              cases h1
              exact h3
            · have := hG.1
              have : c = l.length := by omega
              rw [this]; exact hfit
          have e1 : ((c : Int) - 0).toNat = c := by omega
          rw [e1]
          split
          · exact hc
          · simpa using hc
        · cases h
      | op e' =>
        have h0 : e' = E.e := hG.1
        subst h0
        simp only [cutS] at h
        split at h
        · split at h
          · cases h; exact ⟨rfl, hG.2⟩
          · omega
        · cases h
    · cases h

end Go.Lm

/-
  The logical machine, part 9: things in the heap that are apart.
-/
namespace Go.Lm

set_option linter.unusedSimpArgs false
variable {P : Program} {g h h' : LHeap} {X : Type} {E : Enc X} {V U : LV} {l m : List X} {F : Nat → Prop}

/-- Something that stands in objects of its own. -/
structure Thing where
  own : Nat → Prop
  ok : LHeap → Prop
  up : ∀ h h' : LHeap, (∀ a, own a → h'.get a = h.get a) → ok h → ok h'
def Thing.vec (E : Enc X) (V : LV) (l : List X) : Thing := ⟨fun a => V.obj = some a, fun h => Row h V E l ∧ Grow h V E.e ∧ Mine h V, fun _ _ k ⟨a, b, c⟩ => ⟨a.fr k, b.fr k, c.fr k⟩⟩
def Thing.cells (a : Nat) (vs : List LV) : Thing := ⟨fun b => b = a, fun h => h.get a = some (.cells vs .ex), fun _ _ k e => (k a rfl).trans e⟩
/-- What g had and is not in F is as it was; the things hold, apart from each other, in objects of F or new ones. -/
structure Sep (F : Nat → Prop) (g h : LHeap) (Ts : List Thing) : Prop where
  fr : Fr F g h
  ok : ∀ T ∈ Ts, T.ok h
  lo : ∀ T ∈ Ts, ∀ a, T.own a → (F a ∨ g.next ≤ a) ∧ a < h.next
  dis : Ts.Pairwise fun T U => ∀ a, T.own a → ¬ U.own a
variable {Ts : List Thing} {T : Thing}
theorem Sep.start (F : Nat → Prop) (g : LHeap) : Sep F g g [] := ⟨Fr.refl _ _, fun _ h => (by cases h), fun _ h => (by cases h), List.Pairwise.nil⟩
theorem Sep.one {F : Nat → Prop} {g : LHeap} {T : Thing} (hT : T.ok g) (ho : ∀ a, T.own a → F a ∧ a < g.next) : Sep F g g [T] :=
  ⟨Fr.refl _ _, fun _ h => by rw [List.mem_singleton.1 h]; exact hT, fun _ h a ha => by rw [List.mem_singleton.1 h] at ha; exact ⟨.inl (ho a ha).1, (ho a ha).2⟩, List.pairwise_singleton _ _⟩
theorem Sep.at (S : Sep F g h Ts) (i : Nat) (hi : Ts[i]? = some T) : T.ok h := S.ok T (List.mem_of_getElem? hi)
theorem Sep.le (S : Sep F g h Ts) : g.next ≤ h.next := S.fr.le
theorem Sep.lt (S : Sep F g h Ts) (i : Nat) (hi : Ts[i]? = some T) {a : Nat} (ha : T.own a) : a < h.next := (S.lo T (List.mem_of_getElem? hi) a ha).2
theorem Sep.ge (S : Sep noF g h Ts) (i : Nat) (hi : Ts[i]? = some T) {a : Nat} (ha : T.own a) : g.next ≤ a := (S.lo T (List.mem_of_getElem? hi) a ha).1.resolve_left id
theorem Sep.apart (S : Sep F g h Ts) {i j : Nat} {T U : Thing} (hi : Ts[i]? = some T) (hj : Ts[j]? = some U) (hij : i ≠ j) {a : Nat} (ha : T.own a) : ¬ U.own a := by
  obtain ⟨h1, e1⟩ := List.getElem?_eq_some_iff.1 hi
  obtain ⟨h2, e2⟩ := List.getElem?_eq_some_iff.1 hj
  have hp := List.pairwise_iff_getElem.1 S.dis
  rcases Nat.lt_or_gt_of_ne hij with hl | hl
  · have := hp i j h1 h2 hl
    rw [e1, e2] at this
    exact this a ha
  · have := hp j i h2 h1 hl
    rw [e1, e2] at this
    exact fun hu => this a hu ha
/-- Nothing that was there has turned. -/
theorem Sep.pure (S : Sep F g h Ts) (f : Fr noF h h') : Sep F g h' Ts :=
  ⟨S.fr.trans (f.mono fun _ _ => False.elim), fun T hT => T.up h h' (fun a ha => f.eq a (S.lo T hT a ha).2 id) (S.ok T hT), fun T hT a ha => ⟨(S.lo T hT a ha).1, Nat.lt_of_lt_of_le (S.lo T hT a ha).2 f.le⟩, S.dis⟩
/-- One thing has turned. -/
theorem Sep.put (S : Sep F g h Ts) (i : Nat) (hi : Ts[i]? = some T) (T' : Thing) (f : Fr T.own h h') (ok' : T'.ok h') (nw : ∀ a, T'.own a → (T.own a ∨ h.next ≤ a) ∧ a < h'.next) : Sep F g h' (Ts.set i T') := by
  have hT := List.mem_of_getElem? hi
  obtain ⟨hil, hie⟩ := List.getElem?_eq_some_iff.1 hi
  have hp := List.pairwise_iff_getElem.1 S.dis
  have mem : ∀ U ∈ Ts.set i T', U = T' ∨ ∃ j, j ≠ i ∧ Ts[j]? = some U := fun U hU => by
    obtain ⟨j, hj⟩ := List.getElem?_of_mem hU
    rw [List.getElem?_set] at hj
    split at hj
    · first
        | (cases hj; exact .inl rfl)
        | (split at hj
           · cases hj; exact .inl rfl
           · cases hj)
    · rename_i hne; exact .inr ⟨j, Ne.symm hne, hj⟩
  refine ⟨S.fr.trans' f fun a ha hTa => ?_, fun U hU => ?_, fun U hU a ha => ?_, ?_⟩
  · rcases (S.lo T hT a hTa).1 with h1 | h1
    · exact h1
    · omega
  · rcases mem U hU with rfl | ⟨j, hj, hjU⟩
    · exact ok'
    · exact U.up h h' (fun a ha => f.eq a (S.lt j hjU ha) fun hTa => S.apart hi hjU (Ne.symm hj) hTa ha) (S.at j hjU)
  · rcases mem U hU with rfl | ⟨j, hj, hjU⟩
    · rcases nw a ha with ⟨h1 | h1, h2⟩
      · exact ⟨(S.lo T hT a h1).1, h2⟩
      · exact ⟨.inr (Nat.le_trans S.fr.le h1), h2⟩
    · have := S.lo U (List.mem_of_getElem? hjU) a ha
      exact ⟨this.1, Nat.lt_of_lt_of_le this.2 f.le⟩
  · rw [List.pairwise_iff_getElem]
    intro j k hj hk hjk a
    rw [List.length_set] at hj hk
    have hjn : ∀ {j : Nat} (hj : j < Ts.length), j ≠ i → ∀ a, Ts[j].own a → ¬ T'.own a := fun {j} hj hne a ha ha' => by
      have e : Ts[j]? = some Ts[j] := List.getElem?_eq_getElem hj
      rcases (nw a ha').1 with h1 | h1
      · exact S.apart hi e (Ne.symm hne) h1 ha
      · have := S.lt j e ha; omega
    simp only [List.getElem_set]
    split
    · split
      · omega
      · rename_i h1 h2; subst h1; exact fun ha ha' => hjn hk (Ne.symm h2) a ha' ha
    · split
      · rename_i h1 h2; subst h2; exact hjn hj (Ne.symm h1) a
      · exact hp j k hj hk hjk a
/-- One more thing, in new objects. -/
theorem Sep.add (S : Sep F g h Ts) (T' : Thing) (f : Fr noF h h') (ok' : T'.ok h') (nw : ∀ a, T'.own a → h.next ≤ a ∧ a < h'.next) : Sep F g h' (Ts ++ [T']) := by
  have S' := S.pure f
  refine ⟨S'.fr, fun U hU => ?_, fun U hU a ha => ?_, ?_⟩
  · rcases List.mem_append.1 hU with hU | hU
    · exact S'.ok U hU
    · rw [List.mem_singleton.1 hU]; exact ok'
  · rcases List.mem_append.1 hU with hU | hU
    · exact S'.lo U hU a ha
    · rw [List.mem_singleton.1 hU] at ha
      have := nw a ha
      exact ⟨.inr (Nat.le_trans S.fr.le this.1), this.2⟩
  · rw [List.pairwise_append]
    refine ⟨S.dis, List.pairwise_singleton _ _, fun U hU W hW a ha hb => ?_⟩
    rw [List.mem_singleton.1 hW] at hb
    have := (S.lo U hU a ha).2
    have := nw a hb
    omega
theorem Sep.sub {Us : List Thing} (S : Sep F g h Ts) (hs : Us.Sublist Ts) : Sep F g h Us := ⟨S.fr, fun T hT => S.ok T (hs.subset hT), fun T hT => S.lo T (hs.subset hT), S.dis.sublist hs⟩
theorem Sep.init (S : Sep F g h (Ts ++ [T])) : Sep F g h Ts := S.sub (List.sublist_append_left _ _)

/-! ### Cells and rows -/
theorem Sep.new (S : Sep F g h Ts) (vs : List LV) : Sep F g (h.alloc (.cells vs .ex)) (Ts ++ [Thing.cells h.next vs]) :=
  S.add _ (Fr.alloc _ _) (get_alloc_eq _ _) fun a ha => by cases ha; exact ⟨Nat.le_refl _, Nat.lt_succ_self _⟩
theorem Sep.temp (S : Sep F g h Ts) (o : LObj) : Sep F g (h.alloc o) Ts := S.pure (Fr.alloc _ _)
theorem Sep.cell (S : Sep F g h Ts) (i : Nat) {a : Nat} {vs : List LV} (hi : Ts[i]? = some (Thing.cells a vs)) : h.get a = some (.cells vs .ex) := S.at i hi
theorem Sep.row (S : Sep F g h Ts) (i : Nat) (hi : Ts[i]? = some (Thing.vec E V l)) : Row h V E l := (S.at i hi).1
theorem Sep.grow (S : Sep F g h Ts) (i : Nat) (hi : Ts[i]? = some (Thing.vec E V l)) : Grow h V E.e := (S.at i hi).2.1
theorem Sep.mine (S : Sep F g h Ts) (i : Nat) (hi : Ts[i]? = some (Thing.vec E V l)) : Mine h V := (S.at i hi).2.2
/-- A cell is stored. -/
theorem Sep.store (S : Sep F g h Ts) (i : Nat) {a : Nat} {vs : List LV} (hi : Ts[i]? = some (Thing.cells a vs)) (ws : List LV) : Sep F g (h.set a (.cells ws .ex)) (Ts.set i (Thing.cells a ws)) :=
  S.put i hi _ (Fr.set _ rfl) (get_set_eq _ _ _) fun b hb => ⟨.inl hb, S.lt i hi hb⟩
theorem Sep.nils (S : Sep F g h Ts) (E : Enc X) : Sep F g h (Ts ++ [Thing.vec E .nils []]) :=
  S.add _ (Fr.refl _ _) ⟨Row.nils _ _, trivial, trivial⟩ fun a ha => by cases ha
theorem Sep.vec (S : Sep F g h Ts) (V : LV) (R : Row h' V E l) (G : Grow h' V E.e) (M : Mine h' V) (f : Fr noF h h') (nw : ∀ a, V.obj = some a → h.next ≤ a ∧ a < h'.next) : Sep F g h' (Ts ++ [Thing.vec E V l]) :=
  S.add _ f ⟨R, G, M⟩ nw
/-- A row is appended to. -/
theorem Sep.app (S : Sep F g h Ts) (i : Nat) (hi : Ts[i]? = some (Thing.vec E V l)) {bytes : Nat} (R : Row h U E m) (hb : (l.length + m.length) * bytes * 2 ≤ 2 ^ 48 ∨ ((l.length + m.length) * 5 + 2048) * bytes ≤ 2 ^ 50) :
    ∃ V' h', appendL E.e bytes V U h = some (V', h') ∧ Sep F g h' (Ts.set i (Thing.vec E V' (l ++ m))) ∧ V'.cell = true ∧ h.next ≤ h'.next ∧ Fr (fun a => V.obj = some a) h h' ∧ (∀ a, V'.obj = some a → V.obj = some a ∨ h.next ≤ a) := by
  obtain ⟨hR, hG, hM⟩ := S.at i hi
  have lt : ∀ a, V.obj = some a → a < h.next := fun a ha => S.lt i hi ha
  obtain ⟨V', h', e, R', G', C⟩ := append_row hR hG R hb
  rcases C with ⟨rfl, rfl, rfl⟩ | ⟨_, mi, f, n⟩
  · refine ⟨V', h', e, S.put i hi _ (Fr.refl _ _) ⟨R', G', hM⟩ fun a ha => ⟨.inl ha, lt a ha⟩, R'.cell, Nat.le_refl _, Fr.refl _ _, fun _ h => .inl h⟩
  · have hle : h.next ≤ h'.next := by rcases n with ⟨_, h2⟩ | ⟨_, _, h2⟩ <;> omega
    have ff : Fr (fun a => V.obj = some a) h h' := ⟨hle, fun a ha hF => f a hF (by omega)⟩
    refine ⟨V', h', e, S.put i hi _ ff ⟨R', G', mi⟩ fun a ha => ?_, R'.cell, hle, ff, fun a ha => ?_⟩
    · rcases n with ⟨h1, h2⟩ | ⟨h1, _, h2⟩
      · have ha : V'.obj = some a := ha
        rw [h1] at ha; cases ha; exact ⟨.inr (Nat.le_refl _), by omega⟩
      · have ha : V'.obj = some a := ha
        rw [h1] at ha; exact ⟨.inl ha, by have := lt a ha; omega⟩
    · rcases n with ⟨h1, _⟩ | ⟨h1, _⟩
      · rw [h1] at ha; cases ha; exact .inr (Nat.le_refl _)
      · rw [h1] at ha; exact .inl ha
/-- A row with one element, as it is built. -/
theorem Row.lit {X : Type} {E : Enc X} (h : LHeap) (x : X) (cs : List LV) (e : cs = E.f x) (c : Cap) : Row (h.alloc (.cells cs .ex)) (.slice h.next 0 1 c) E [x] := by
  subst e
  refine Row.of (get_alloc_eq _ _) rfl ?_ ?_
  · simp only [List.drop_zero, List.length_cons, List.length_nil, Nat.zero_add, Nat.one_mul, List.flatMap_cons, List.flatMap_nil, List.append_nil]
    rw [List.take_of_length_le (by rw [E.len]; exact Nat.le_refl _)]
  · simp only [List.length_cons, List.length_nil, Nat.zero_add, Nat.one_mul, E.len]; exact Nat.le_refl _
/-- One element is appended. -/
theorem Sep.push (S : Sep F g h Ts) (i : Nat) (hi : Ts[i]? = some (Thing.vec E V l)) {bytes : Nat} (x : X) {cs : List LV} (hcs : cs = E.f x) (hb : (l.length + 1) * bytes * 2 ≤ 2 ^ 48 ∨ ((l.length + 1) * 5 + 2048) * bytes ≤ 2 ^ 50) :
    ∃ V' h', appendL E.e bytes V (.slice h.next 0 1 (.ex 1)) (h.alloc (.cells cs .ex)) = some (V', h') ∧ Sep F g h' (Ts.set i (Thing.vec E V' (l ++ [x]))) ∧ V'.cell = true ∧ h.next ≤ h'.next ∧ Fr (fun a => V.obj = some a) h h' ∧ (∀ a, V'.obj = some a → V.obj = some a ∨ h.next ≤ a) := by
  obtain ⟨V', h', e, S', c, n, f, o⟩ := (S.temp (.cells cs .ex)).app i hi (bytes := bytes) (Row.lit h x cs hcs (.ex 1)) hb
  refine ⟨V', h', e, S', c, Nat.le_trans (Nat.le_succ _) n, ((Fr.alloc h _).mono fun _ _ => False.elim).trans f, fun a ha => (o a ha).imp id fun h => Nat.le_trans (Nat.le_succ _) h⟩
/-- A fresh copy. -/
theorem Sep.clone (S : Sep F g h Ts) (R : Row h V E l) {bytes : Nat} (wf : h.Wf) (hb : l.length * bytes * 2 ≤ 2 ^ 48 ∨ (l.length * 5 + 2048) * bytes ≤ 2 ^ 50) :
    ∃ V' h', appendL E.e bytes (.slice h.next 0 0 (.ex 0)) V (h.alloc (.cells [] .ex)) = some (V', h') ∧ Sep F g h' (Ts ++ [Thing.vec E V' l]) ∧ V'.cell = true ∧ Fr noF h h' ∧ (∀ a, V'.obj = some a → h.next ≤ a ∧ a < h'.next) := by
  obtain ⟨V', h', e, O, mi, f⟩ := Vec.clone (bytes := bytes) R wf hb
  exact ⟨V', h', e, S.vec V' O.row O.grow mi f O.lo, O.row.cell, f, O.lo⟩

/-- A field of an element is stored. -/
theorem Sep.stf (S : Sep F g h Ts) (i : Nat) (hi : Ts[i]? = some (Thing.vec E V l)) {k j : Nat} {x : X} (y : X) {v : LV} (hv : v.cell = true) (hx : l[k]? = some x) (hj : j < E.e) (hy : E.f y = (E.f x).set j v) :
    ∃ a off h', V.at E.e k = .ptr a off ∧ storeV 1 (.ptr a (off + j)) v h = some h' ∧ Sep F g h' (Ts.set i (Thing.vec E V (l.set k y))) ∧ h'.next = h.next ∧ Fr (fun a => V.obj = some a) h h' := by
  obtain ⟨hR, hG, hM⟩ := S.at i hi
  obtain ⟨a, off, vs, own, e1, e2, e3, e4, e5, e6, e7⟩ := hR.stf hM (v := v) hx hj hy
  have ff : Fr (fun a => V.obj = some a) h (h.set a (.cells (vs.set (off + j) v) own)) := Fr.set _ e2
  exact ⟨a, off, _, e1, by rw [store_o _ _ _ hv, e3]; exact e4, S.put i hi _ ff ⟨e5, e6 hG, e7⟩ fun b hb => ⟨.inl hb, S.lt i hi hb⟩, rfl, ff⟩
theorem Row.old (R : Row g V E l) (wf : g.Wf) (f : Fr noF g h) : Row h V E l := R.up wf f fun _ _ => id
end Go.Lm
