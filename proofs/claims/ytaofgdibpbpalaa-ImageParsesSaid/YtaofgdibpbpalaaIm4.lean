/-
  image.Make: an image's bytes.
-/
import Derived.Test.YtaofgdibpbpalaaIm2
set_option linter.all false
namespace Go.Proofs.Ytaofgdibpbpalaa
open Go.ChangeShapes Go.WideShapes Go.ChangeAt Go.RowKit Go.Lm
set_option linter.unusedSimpArgs false
theorem ap23 {V U : LV} (hU : U.isStr = false) (g : LHeap) : builtinL Try.prog .append [23, 23] [V, U] g = appendL 1 1 V U g := append_ok (by kernel_rfl) hU g
theorem ap23s {V : LV} (a o l : Nat) (c : Cap) (g : LHeap) : builtinL Try.prog .append [23, 23] [V, .slice a o l c] g = appendL 1 1 V (.slice a o l c) g := ap23 rfl g
theorem ty51 : Try.prog.underlying 51 = some (.slice 3) := by kernel_rfl
set_option maxRecDepth 10000 in
theorem conv_u8 (n : Int) (h : LHeap) : convL Try.prog 3 5 (i n) h = some (B (IntKind.u8.wrap n), h) := nr (by kernel_rfl)
theorem shr8 {P : Program} (t : TypeId) (lit : Bool) (n : Int) : binL P .shr t lit (.int .i64 n) (.int .u64 8) = some (.int .i64 (n.fdiv (2 ^ 8))) := nr rfl
set_option maxRecDepth 10000 in
theorem bs23_2 (x y : Int) (h : LHeap) : buildSliceL Try.prog 23 2 [(0, B x), (1, B y)] h = some (.slice h.next 0 2 (.ex 2), h.alloc (.cells [B x, B y] .ex)) := nr (by kernel_rfl)
set_option maxRecDepth 10000 in
theorem bs51_2 (x y : Int) (h : LHeap) : buildSliceL Try.prog 51 2 [(0, i x), (1, i y)] h = some (.slice h.next 0 2 (.ex 2), h.alloc (.cells [i x, i y] .ex)) := nr (by kernel_rfl)
set_option maxRecDepth 10000 in
theorem bs51_3 (x y z : Int) (h : LHeap) : buildSliceL Try.prog 51 3 [(0, i x), (1, i y), (2, i z)] h = some (.slice h.next 0 3 (.ex 3), h.alloc (.cells [i x, i y, i z] .ex)) := nr (by kernel_rfl)
set_option maxRecDepth 10000 in
theorem bs23_4 (x y z u : Int) (h : LHeap) : buildSliceL Try.prog 23 4 [(0, B x), (1, B y), (2, B z), (3, B u)] h = some (.slice h.next 0 4 (.ex 4), h.alloc (.cells [B x, B y, B z, B u] .ex)) := nr (by kernel_rfl)
def two (n : Int) : List Int := [IntKind.u8.wrap n, IntKind.u8.wrap (n / 256)]
theorem fdiv8 (n : Int) : n.fdiv (2 ^ 8) = n / 256 := Int.fdiv_eq_ediv_of_nonneg n (by decide)
theorem row2 {x y : Int} (h : LHeap) {c : Cap} : Row (h.alloc (.cells [B x, B y] .ex)) (.slice h.next 0 2 c) byteE [x, y] := Row.of (get_alloc_eq _ _) rfl rfl (by show 0 + 2 * 1 ≤ 2; omega)
/-- Where Make's bytes are told: a cell that names them. -/
structure Out (base o : Nat) (h : LHeap) (V : LV) (bs : List Int) : Prop where
  at_ : h.get o = some (.cells [V] .ex)
  vec : Vec byteE base h V bs
  ob : base ≤ o ∧ o < h.next
  ne : V.obj ≠ some o
/-- The heap is as it was below 'base'. -/
abbrev Lo (base : Nat) (g h : LHeap) : Prop := Fr (fun a => base ≤ a) g h
theorem Out.push {base o : Nat} {h : LHeap} {V : LV} {bs : List Int} (O : Out base o h V bs) {U : LV} {us : List Int} (R : Row h U byteE us) (hb : (bs.length + us.length) * 2 ≤ 2 ^ 48) :
    ∃ V' h', appendL 1 1 V U h = some (V', h') ∧ h'.get o = some (.cells [V] .ex) ∧ Out base o (h'.set o (.cells [V'] .ex)) V' (bs ++ us) ∧ Lo base h (h'.set o (.cells [V'] .ex)) ∧ V'.cell = true ∧ Fr (fun a => V.obj = some a ∨ a = o) h (h'.set o (.cells [V'] .ex)) ∧ (∀ a, V'.obj = some a → V.obj = some a ∨ h.next ≤ a) := by
  obtain ⟨o1, o2⟩ := O.ob
  obtain ⟨V', h', e, O', f, n⟩ := O.vec.app R (bytes := 1) (by omega) (by omega)
  have hne : V'.obj ≠ some o := fun hV => by
    rcases n o hV with h1 | h1
    · exact O.ne h1
    · omega
  have f1 : Lo base h h' := f.mono fun a _ ha => (O.vec.lo a ha).1
  refine ⟨V', h', e, (f.eq o o2 O.ne).trans O.at_, ⟨get_set_eq _ _ _, ?_, ⟨o1, Nat.lt_of_lt_of_le o2 f.le⟩, hne⟩, f1.set' _ (.inr o1), O'.row.cell, (f.mono fun _ _ h => .inl h).set' _ (.inr (.inr rfl)), n⟩
  exact O'.up (Fr.set (F := fun a => a = o) _ rfl) fun a ha e => hne (e ▸ ha)
theorem Out.up {base o : Nat} {h h' : LHeap} {V : LV} {bs : List Int} (O : Out base o h V bs) (f : Fr noF h h') : Out base o h' V bs :=
  ⟨(f.eq o O.ob.2 id).trans O.at_, O.vec.up f fun _ _ => id, ⟨O.ob.1, Nat.lt_of_lt_of_le O.ob.2 f.le⟩, O.ne⟩
theorem clos_ok {base o : Nat} {h : LHeap} {V L : LV} {bs ns : List Int} (O : Out base o h V bs) (R : Row h L intE ns) (hL : ∀ a, L.obj = some a → a < h.next ∧ a ≠ o ∧ V.obj ≠ some a) (hb : (bs.length + 2 * ns.length) * 2 ≤ 2 ^ 48) :
    Ok Try.prog 58 [L, .ptr o 0] h fun _ h' => ∃ V', Out base o h' V' (bs ++ ns.flatMap two) ∧ Lo base h h' := by
  refine ok58 fun _ _ => ?_
  have hlen := R.len ty51
  simp only [F58, J58_0, b_len, hlen, i, sh, sh2]
  refine loop_n (fun n s h' => ∃ (k : Nat) (V' : LV), s = i (k : Int) ∧ k + n = ns.length ∧ Out base o h' V' (bs ++ (ns.take k).flatMap two) ∧ Lo base h h' ∧ Row h' L intE ns ∧ (∀ a, L.obj = some a → a < h'.next ∧ a ≠ o ∧ V'.obj ≠ some a)) (n := ns.length)
    ⟨0, V, rfl, by omega, by simpa using O, Fr.refl _ _, R, hL⟩ ?_
  rintro n s h' ⟨k, V', rfl, hk, O', f, R', hne⟩
  cases n with
  | zero =>
    rw [List.take_of_length_le (by omega)] at O'
    simp (disch := omega) only [L58_1, i, sh, sh2, shi, dec]
    exact ⟨V', O', f⟩
  | succ n =>
    obtain ⟨x, hx, hd⟩ := drop_at (l := ns) (k := k) (by omega)
    have hix := R'.ix (k := .i64) (i := k) (by omega)
    have hld := R'.ld1 hx rfl rfl
    have e1 : intE.e = 1 := rfl
    rw [e1] at hix
    have hat := O'.at_
    have O2 := O'.up (Fr.alloc h' (.cells [B (IntKind.u8.wrap x), B (IntKind.u8.wrap (x / 256))] .ex))
    have hlb : (ns.take k).length = k := by rw [List.length_take]; omega
    have hfl : ∀ l : List Int, (l.flatMap two).length = 2 * l.length := fun l => by
      induction l with
      | nil => rfl
      | cons y l ih => simp only [List.flatMap_cons, List.length_append, ih, List.length_cons, two, List.length_nil]; omega
    obtain ⟨V2, h2, ea, hat2, O3, f3, cV, f5, nV⟩ := O2.push (row2 (x := IntKind.u8.wrap x) (y := IntKind.u8.wrap (x / 256)) h' (c := .ex 2)) (by rw [List.length_append, hfl, hlb]; simp only [List.length_cons, List.length_nil]; omega)
    simp (disch := omega) only [L58_1, i, sh, sh2, shc, shi, dec, hix, hld, hat, conv_u8, shr8, fdiv8, bs23_2, ap23s, ea, hat2, store_o _ _ _ cV]
    have f4 : Lo base h' (h2.set o (.cells [V2] .ex)) := ((Fr.alloc h' _).mono fun _ _ => False.elim).trans' f3 fun _ _ => id
    refine ⟨n, by omega, k + 1, V2, by simp, by omega, ?_, f.trans f4, ?_, ?_⟩
    · have : (ns.take (k + 1)) = ns.take k ++ [x] := by rw [List.take_add_one, hx]; rfl
      rw [this, List.flatMap_append, ← List.append_assoc]
      simpa [two] using O3
    · exact R'.fr fun a ha => by
        obtain ⟨n1, n2, n3⟩ := hne a ha
        rw [f5.eq a (by simp only [LHeap.next_alloc]; omega) (fun h => h.elim n3 n2), get_alloc_ne _ _ (by omega)]
    · intro a ha
      obtain ⟨n1, n2, n3⟩ := hne a ha
      refine ⟨Nat.lt_of_lt_of_le n1 f4.le, n2, fun h => ?_⟩
      rcases nV a h with h | h
      · exact n3 h
      · simp only [LHeap.next_alloc] at h; omega
set_option maxRecDepth 10000 in
theorem cv58 (L p : LV) (h : LHeap) (K : LV → LHeap → Prop) : callV Try.prog (Ok Try.prog) (.func (.func 58) [] [p]) [L] h K = Ok Try.prog 58 [L, p] h K := callV_f (by kernel_rfl)
def magic : List Int := [80, 88, 69, 49]
def segH (s : Seg) : List Int := two s.1 ++ two (s.2.length : Int)
def zerH (z : Int × Int) : List Int := two z.1 ++ two z.2
def makeB (en : Int) (segs : List Seg) (zs : List (Int × Int)) : List Int :=
  magic ++ (two en ++ two (segs.length : Int) ++ two (zs.length : Int)) ++ segs.flatMap segH ++ zs.flatMap zerH ++ segs.flatMap (·.2)
theorem reachB_true {f c : Int} {bs : List Bool} (h : (reachB f c bs).1 = true) : 0 ≤ f ∧ 1 ≤ c ∧ c ≤ 128 ∧ f ≤ 128 - c := by
  unfold reachB at h
  split at h
  · cases h
  · omega
theorem chkZ_facts : ∀ {zs : List (Int × Int)} {bs : List Bool} {size : Int}, chkZ zs bs size = 0 → size ≤ 16384 ∧ ∀ z ∈ zs, 0 ≤ z.1 ∧ 1 ≤ z.2 ∧ z.2 ≤ 128 ∧ z.1 ≤ 127
  | [], bs, size, h => by
    unfold chkZ at h
    split at h
    · cases h
    · exact ⟨by omega, fun z hz => by cases hz⟩
  | z :: r, bs, size, h => by
    unfold chkZ at h
    split at h
    · rename_i hr
      obtain ⟨h1, h2⟩ := chkZ_facts h
      have := reachB_true hr
      refine ⟨h1, fun y hy => ?_⟩
      rcases List.mem_cons.1 hy with rfl | hy
      · omega
      · exact h2 y hy
    · cases h
theorem chkS_facts : ∀ {segs : List Seg} {zs : List (Int × Int)} {bs : List Bool} {size : Int}, chkS segs zs bs size = 0 → size + (segs.flatMap (·.2)).length ≤ 16384 ∧ (∀ s ∈ segs, 0 ≤ s.1 ∧ s.2.length ≤ 16384 ∧ s.1.tmod 256 = 0 ∧ page s.1 ≤ 127) ∧ ∀ z ∈ zs, 0 ≤ z.1 ∧ 1 ≤ z.2 ∧ z.2 ≤ 128 ∧ z.1 ≤ 127
  | [], zs, bs, size, h => by
    obtain ⟨h1, h2⟩ := chkZ_facts (by simpa only [chkS] using h)
    exact ⟨by simpa using h1, fun s hs => (by cases hs), h2⟩
  | s :: r, zs, bs, size, h => by
    unfold chkS at h
    split at h
    · cases h
    · rename_i hn
      split at h
      · rename_i hr
        obtain ⟨h1, h2, h3⟩ := chkS_facts h
        have := reachB_true hr
        refine ⟨by simp only [List.flatMap_cons, List.length_append]; omega, fun y hy => ?_, h3⟩
        rcases List.mem_cons.1 hy with rfl | hy
        · exact ⟨by omega, by omega, by omega, by unfold pagesN at this; omega⟩
        · exact h2 y hy
      · cases h
structure Facts (en : Int) (segs : List Seg) (zs : List (Int × Int)) : Prop where
  en0 : 0 ≤ en
  en1 : en ≤ 65535
  sl : segs.length ≤ 16
  zl : zs.length ≤ 16
  body : (segs.flatMap (·.2)).length ≤ 16384
  seg : ∀ s ∈ segs, 0 ≤ s.1 ∧ s.2.length ≤ 16384 ∧ s.1.tmod 256 = 0 ∧ page s.1 ≤ 127
  zer : ∀ z ∈ zs, 0 ≤ z.1 ∧ 1 ≤ z.2 ∧ z.2 ≤ 128 ∧ z.1 ≤ 127
theorem checkN_facts {en : Int} {segs : List Seg} {zs : List (Int × Int)} (h : checkN en segs zs = 0) : Facts en segs zs := by
  unfold checkN at h
  split at h
  · cases h
  · rename_i hn
    obtain ⟨h1, h2, h3⟩ := chkS_facts h
    exact ⟨by omega, by omega, by omega, by omega, by omega, h2, h3⟩
theorem two_len (l : List Int) : (l.flatMap two).length = 2 * l.length := by
  induction l with
  | nil => rfl
  | cons y l ih => simp only [List.flatMap_cons, List.length_append, ih, List.length_cons, two, List.length_nil]; omega
theorem flat4 {A : Type} (f : A → List Int) (h : ∀ a, (f a).length = 4) : ∀ (l : List A), (l.flatMap f).length = 4 * l.length
  | [] => rfl
  | a :: l => by simp only [List.flatMap_cons, List.length_append, h, flat4 f h l, List.length_cons]; omega
theorem take_flat {A : Type} (f : A → List Int) {l : List A} {k : Nat} {x : A} (h : l[k]? = some x) : (l.take (k + 1)).flatMap f = (l.take k).flatMap f ++ f x := by
  rw [List.take_add_one, h, List.flatMap_append]; simp
theorem checkN_two (en : Int) (segs : List Seg) (zs : List (Int × Int)) : checkN en segs zs = 0 ∨ checkN en segs zs = 230 := by
  have z : ∀ (zs : List (Int × Int)) (bs : List Bool) (size : Int), chkZ zs bs size = 0 ∨ chkZ zs bs size = 230 := by
    intro zs
    induction zs with
    | nil => intro bs size; unfold chkZ; split <;> simp
    | cons z r ih => intro bs size; unfold chkZ; split; exact ih _ _; exact .inr rfl
  have s : ∀ (segs : List Seg) (bs : List Bool) (size : Int), chkS segs zs bs size = 0 ∨ chkS segs zs bs size = 230 := by
    intro segs
    induction segs with
    | nil => intro bs size; exact z _ _ _
    | cons s r ih =>
      intro bs size
      unfold chkS
      split
      · exact .inr rfl
      · split
        · exact ih _ _
        · exact .inr rfl
  unfold checkN
  split
  · exact .inr rfl
  · exact s _ _ _
end Go.Proofs.Ytaofgdibpbpalaa
