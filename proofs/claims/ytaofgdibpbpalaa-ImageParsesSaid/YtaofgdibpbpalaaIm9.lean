/-
  image.Parse: its heap.
-/
import Derived.Test.YtaofgdibpbpalaaIm8
set_option linter.all false
namespace Go.Proofs.Ytaofgdibpbpalaa
open Go.ChangeShapes Go.WideShapes Go.ChangeAt Go.RowKit Go.Lm
set_option linter.unusedSimpArgs false
structure PaH (g h : LHeap) (V : LV) (st : R) (xi : Nat) (en : Int) (SV ZV X8 : LV) (ss : List (Int × LV)) (zs : List (Int × Int)) (sz : List Int) : Prop where
  lo : Lo g.next g h
  x2 : h.get g.next = some (.cells [i 0, .nils, .nils] .ex)
  rd : Rd h (g.next + 1) V st
  vlo : ∀ a, V.obj = some a → a < g.next
  im : h.get xi = some (.cells [i en, SV, ZV] .ex)
  xl : g.next + 1 < xi ∧ xi < h.next
  sv : Vec segE (g.next + 2) h SV ss
  zv : Vec zE (g.next + 2) h ZV zs
  x8 : Vec intE (g.next + 2) h X8 sz
  d1 : SV.obj ≠ some xi ∧ ZV.obj ≠ some xi ∧ X8.obj ≠ some xi
  d2 : ∀ a, SV.obj = some a → ZV.obj ≠ some a ∧ X8.obj ≠ some a
  d3 : ∀ a, ZV.obj = some a → X8.obj ≠ some a
  mi : Mine h SV
variable {g h h' : LHeap} {V SV ZV X8 : LV} {st : R} {xi : Nat} {en : Int} {ss : List (Int × LV)} {zs : List (Int × Int)} {sz : List Int}
theorem PaH.up (C : PaH g h V st xi en SV ZV X8 ss zs sz) (f : Fr noF h h') : PaH g h' V st xi en SV ZV X8 ss zs sz := by
  have hn := C.xl
  have hv := fun a ha => Nat.lt_of_lt_of_le (C.vlo a ha) C.lo.le
  exact ⟨C.lo.trans (f.mono fun _ _ => False.elim), (f.eq _ (by omega) id).trans C.x2, ⟨(f.eq _ C.rd.lt id).trans C.rd.at_, C.rd.row.fr fun a ha => f.eq a (hv a ha) id, C.rd.capd, C.rd.ne, Nat.lt_of_lt_of_le C.rd.lt f.le⟩, C.vlo, (f.eq _ hn.2 id).trans C.im,
    ⟨hn.1, Nat.lt_of_lt_of_le hn.2 f.le⟩, C.sv.up f fun _ _ => id, C.zv.up f fun _ _ => id, C.x8.up f fun _ _ => id, C.d1, C.d2, C.d3, C.mi.fr fun a ha => f.eq a (C.sv.lo a ha).2 id⟩
/-- The reader has gone on. -/
theorem PaH.read (C : PaH g h V st xi en SV ZV X8 ss zs sz) {V' : LV} {st' : R} (D : Rd h' (g.next + 1) V' st') (f : Fr (fun a => a = g.next + 1) h h') (oV : ∀ a, V'.obj = some a → V.obj = some a) : PaH g h' V' st' xi en SV ZV X8 ss zs sz := by
  have hn := C.xl
  have ge : ∀ {X : Type} {E : Enc X} {U : LV} {l : List X}, Vec E (g.next + 2) h U l → Vec E (g.next + 2) h' U l := fun U => U.up f fun a ha e => by have := (U.lo a ha).1; omega
  exact ⟨C.lo.trans (f.mono fun a _ e => by omega), (f.eq _ (by omega) (by omega)).trans C.x2, D, fun a ha => C.vlo a (oV a ha), (f.eq _ hn.2 (by omega)).trans C.im, ⟨hn.1, Nat.lt_of_lt_of_le hn.2 f.le⟩, ge C.sv, ge C.zv, ge C.x8, C.d1, C.d2, C.d3, C.mi.fr fun a ha => f.eq a (C.sv.lo a ha).2 (by have := (C.sv.lo a ha).1; omega)⟩
theorem rowOf {X : Type} {E : Enc X} (h : LHeap) (x : X) (cs : List LV) (e : cs = E.f x) (c : Cap) : Row (h.alloc (.cells cs .ex)) (.slice h.next 0 1 c) E [x] := by
  subst e
  refine Row.of (get_alloc_eq _ _) rfl ?_ ?_
  · simp only [List.drop_zero, List.length_cons, List.length_nil, Nat.zero_add, Nat.one_mul, List.flatMap_cons, List.flatMap_nil, List.append_nil]
    rw [List.take_of_length_le (by rw [E.len]; exact Nat.le_refl _)]
  · simp only [List.length_cons, List.length_nil, Nat.zero_add, Nat.one_mul, E.len]; exact Nat.le_refl _
theorem PaH.seg (C : PaH g h V st xi en SV ZV X8 ss zs sz) (x : Int) (hb : ss.length ≤ 2 ^ 20) :
    ∃ SV' h2, appendL 2 32 SV (.slice h.next 0 1 (.ex 1)) (h.alloc (.cells [i x, .nils] .ex)) = some (SV', h2) ∧ SV'.cell = true ∧ h2.get xi = some (.cells [i en, SV, ZV] .ex) ∧ PaH g (h2.set xi (.cells [i en, SV', ZV] .ex)) V st xi en SV' ZV X8 (ss ++ [(x, .nils)]) zs sz := by
  have C1 := C.up (Fr.alloc h (.cells [i x, .nils] .ex))
  have hn := C1.xl
  obtain ⟨SV', h2, e, O, f, nV, mi⟩ := C1.sv.app' (bytes := 32) (rowOf (E := segE) h (x, .nils) [i x, .nils] rfl (.ex 1)) (by simp only [List.length_cons, List.length_nil]; omega) (by omega)
  have fresh : ∀ a, SV'.obj = some a → a ≠ xi ∧ ZV.obj ≠ some a ∧ X8.obj ≠ some a ∧ g.next + 2 ≤ a := fun a ha => by
    rcases nV a ha with h1 | h1
    · exact ⟨fun e => C1.d1.1 (e ▸ h1), (C1.d2 a h1).1, (C1.d2 a h1).2, (C1.sv.lo a h1).1⟩
    · exact ⟨by omega, fun e => by have := (C1.zv.lo a e).2; omega, fun e => by have := (C1.x8.lo a e).2; omega, by omega⟩
  have f2 : Fr (fun a => SV.obj = some a ∨ a = xi) (h.alloc (.cells [i x, .nils] .ex)) (h2.set xi (.cells [i en, SV', ZV] .ex)) := (f.mono fun _ _ h => .inl h).set' _ (.inr (.inr rfl))
  have ge : ∀ a, SV.obj = some a ∨ a = xi → g.next + 2 ≤ a := fun a h => h.elim (fun h => (C1.sv.lo a h).1) (fun h => by omega)
  refine ⟨SV', h2, e, O.row.cell, (f.eq _ hn.2 C1.d1.1).trans C1.im, ?_⟩
  exact ⟨C1.lo.trans (f2.mono fun a _ h => by have := ge a h; omega), (f2.eq _ (by omega) (fun h => by have := ge _ h; omega)).trans C1.x2,
    ⟨(f2.eq _ C1.rd.lt (fun h => by have := ge _ h; omega)).trans C1.rd.at_, C1.rd.row.fr fun a ha => f2.eq a (Nat.lt_of_lt_of_le (C1.vlo a ha) C1.lo.le) (fun h => by have := ge _ h; have := C1.vlo a ha; omega), C1.rd.capd, C1.rd.ne, Nat.lt_of_lt_of_le C1.rd.lt f2.le⟩, C1.vlo,
    get_set_eq _ _ _, ⟨hn.1, Nat.lt_of_lt_of_le hn.2 f2.le⟩, O.up (Fr.set (F := fun a => a = xi) _ rfl) fun a ha => (fresh a ha).1, C1.zv.up f2 (fun a ha h => h.elim (fun h => (C1.d2 a h).1 ha) (fun e => C1.d1.2.1 (e ▸ ha))),
    C1.x8.up f2 (fun a ha h => h.elim (fun h => (C1.d2 a h).2 ha) (fun e => C1.d1.2.2 (e ▸ ha))), ⟨fun h => (fresh xi h).1 rfl, C1.d1.2⟩, fun a ha => ⟨(fresh a ha).2.1, (fresh a ha).2.2.1⟩, C1.d3, (mi (by simp)).fr fun a ha => get_set_ne _ _ (fresh a ha).1⟩
theorem PaH.zer (C : PaH g h V st xi en SV ZV X8 ss zs sz) (x y : Int) (hb : zs.length ≤ 2 ^ 20) :
    ∃ ZV' h2, appendL 2 16 ZV (.slice h.next 0 1 (.ex 1)) (h.alloc (.cells [i x, i y] .ex)) = some (ZV', h2) ∧ ZV'.cell = true ∧ h2.get xi = some (.cells [i en, SV, ZV] .ex) ∧ PaH g (h2.set xi (.cells [i en, SV, ZV'] .ex)) V st xi en SV ZV' X8 ss (zs ++ [(x, y)]) sz := by
  have C1 := C.up (Fr.alloc h (.cells [i x, i y] .ex))
  have hn := C1.xl
  obtain ⟨ZV', h2, e, O, f, nV⟩ := C1.zv.app (bytes := 16) (rowOf (E := zE) h (x, y) [i x, i y] rfl (.ex 1)) (by simp only [List.length_cons, List.length_nil]; omega) (by omega)
  have fresh : ∀ a, ZV'.obj = some a → a ≠ xi ∧ SV.obj ≠ some a ∧ X8.obj ≠ some a ∧ g.next + 2 ≤ a := fun a ha => by
    rcases nV a ha with h1 | h1
    · exact ⟨fun e => C1.d1.2.1 (e ▸ h1), fun h => (C1.d2 a h).1 h1, C1.d3 a h1, (C1.zv.lo a h1).1⟩
    · exact ⟨by omega, fun e => by have := (C1.sv.lo a e).2; omega, fun e => by have := (C1.x8.lo a e).2; omega, by omega⟩
  have f2 : Fr (fun a => ZV.obj = some a ∨ a = xi) (h.alloc (.cells [i x, i y] .ex)) (h2.set xi (.cells [i en, SV, ZV'] .ex)) := (f.mono fun _ _ h => .inl h).set' _ (.inr (.inr rfl))
  have ge : ∀ a, ZV.obj = some a ∨ a = xi → g.next + 2 ≤ a := fun a h => h.elim (fun h => (C1.zv.lo a h).1) (fun h => by omega)
  refine ⟨ZV', h2, e, O.row.cell, (f.eq _ hn.2 C1.d1.2.1).trans C1.im, ?_⟩
  exact ⟨C1.lo.trans (f2.mono fun a _ h => by have := ge a h; omega), (f2.eq _ (by omega) (fun h => by have := ge _ h; omega)).trans C1.x2,
    ⟨(f2.eq _ C1.rd.lt (fun h => by have := ge _ h; omega)).trans C1.rd.at_, C1.rd.row.fr fun a ha => f2.eq a (Nat.lt_of_lt_of_le (C1.vlo a ha) C1.lo.le) (fun h => by have := ge _ h; have := C1.vlo a ha; omega), C1.rd.capd, C1.rd.ne, Nat.lt_of_lt_of_le C1.rd.lt f2.le⟩, C1.vlo,
    get_set_eq _ _ _, ⟨hn.1, Nat.lt_of_lt_of_le hn.2 f2.le⟩, C1.sv.up f2 (fun a ha h => h.elim (fun h => (C1.d2 a ha).1 h) (fun e => C1.d1.1 (e ▸ ha))), O.up (Fr.set (F := fun a => a = xi) _ rfl) fun a ha => (fresh a ha).1,
    C1.x8.up f2 (fun a ha h => h.elim (fun h => C1.d3 a h ha) (fun e => C1.d1.2.2 (e ▸ ha))), ⟨C1.d1.1, fun h => (fresh xi h).1 rfl, C1.d1.2.2⟩, fun a ha => ⟨fun h => (fresh a h).2.1 ha, (C1.d2 a ha).2⟩, fun a ha => (fresh a ha).2.2.1, C1.mi.fr fun a ha => f2.eq a (C1.sv.lo a ha).2 (fun h => h.elim (fun h => (C1.d2 a ha).1 h) (fun e => C1.d1.1 (e ▸ ha)))⟩
theorem PaH.siz (C : PaH g h V st xi en SV ZV X8 ss zs sz) (x : Int) (hb : sz.length ≤ 2 ^ 20) :
    ∃ X' h2, appendL 1 8 X8 (.slice h.next 0 1 (.ex 1)) (h.alloc (.cells [i x] .ex)) = some (X', h2) ∧ PaH g h2 V st xi en SV ZV X' ss zs (sz ++ [x]) := by
  have C1 := C.up (Fr.alloc h (.cells [i x] .ex))
  have hn := C1.xl
  obtain ⟨X', h2, e, O, f2, nV⟩ := C1.x8.app (bytes := 8) (rowOf (E := intE) h x [i x] rfl (.ex 1)) (by simp only [List.length_cons, List.length_nil]; omega) (by omega)
  have fresh : ∀ a, X'.obj = some a → a ≠ xi ∧ SV.obj ≠ some a ∧ ZV.obj ≠ some a ∧ g.next + 2 ≤ a := fun a ha => by
    rcases nV a ha with h1 | h1
    · exact ⟨fun e => C1.d1.2.2 (e ▸ h1), fun h => (C1.d2 a h).2 h1, fun h => C1.d3 a h h1, (C1.x8.lo a h1).1⟩
    · exact ⟨by omega, fun e => by have := (C1.sv.lo a e).2; omega, fun e => by have := (C1.zv.lo a e).2; omega, by omega⟩
  have ge : ∀ a, X8.obj = some a → g.next + 2 ≤ a := fun a h => (C1.x8.lo a h).1
  refine ⟨X', h2, e, ?_⟩
  exact ⟨C1.lo.trans (f2.mono fun a _ h => by have := ge a h; omega), (f2.eq _ (by omega) (fun h => by have := ge _ h; omega)).trans C1.x2,
    ⟨(f2.eq _ C1.rd.lt (fun h => by have := ge _ h; omega)).trans C1.rd.at_, C1.rd.row.fr fun a ha => f2.eq a (Nat.lt_of_lt_of_le (C1.vlo a ha) C1.lo.le) (fun h => by have := ge _ h; have := C1.vlo a ha; omega), C1.rd.capd, C1.rd.ne, Nat.lt_of_lt_of_le C1.rd.lt f2.le⟩, C1.vlo,
    (f2.eq _ hn.2 C1.d1.2.2).trans C1.im, ⟨hn.1, Nat.lt_of_lt_of_le hn.2 f2.le⟩, C1.sv.up f2 (fun a ha h => (C1.d2 a ha).2 h), C1.zv.up f2 (fun a ha h => C1.d3 a ha h), O,
    ⟨C1.d1.1, C1.d1.2.1, fun h => (fresh xi h).1 rfl⟩, fun a ha => ⟨(C1.d2 a ha).1, fun h => (fresh a h).2.1 ha⟩, fun a ha h => (fresh a h).2.2.1 ha, C1.mi.fr fun a ha => f2.eq a (C1.sv.lo a ha).2 (fun h => (C1.d2 a ha).2 h)⟩
/-- The heap while the segments' bytes are read: the rows are one's own. -/
structure PbH (g h : LHeap) (V : LV) (st : R) (xi : Nat) (en : Int) (SV ZV X8 : LV) (ss : List (Int × LV)) (zs : List (Int × Int)) (sz : List Int) (sg : List Seg) : Prop where
  pa : PaH g h V st xi en SV ZV X8 ss zs sz
  sb : All2 (SegR h) ss sg
  ro : ∀ s ∈ ss, ∀ a, s.2.obj = some a → g.next + 2 ≤ a ∧ a < h.next ∧ SV.obj ≠ some a
theorem PbH.up {sg : List Seg} (C : PbH g h V st xi en SV ZV X8 ss zs sz sg) (f : Fr noF h h') : PbH g h' V st xi en SV ZV X8 ss zs sz sg := by
  refine ⟨C.pa.up f, ?_, fun s hs a ha => ⟨(C.ro s hs a ha).1, Nat.lt_of_lt_of_le (C.ro s hs a ha).2.1 f.le, (C.ro s hs a ha).2.2⟩⟩
  exact C.sb.monoM fun s t hs h => ⟨h.1, h.2.fr fun a ha => f.eq a (C.ro s hs a ha).2.1 id⟩
theorem PbH.read {sg : List Seg} (C : PbH g h V st xi en SV ZV X8 ss zs sz sg) {V' : LV} {st' : R} (D : Rd h' (g.next + 1) V' st') (f : Fr (fun a => a = g.next + 1) h h') (oV : ∀ a, V'.obj = some a → V.obj = some a) : PbH g h' V' st' xi en SV ZV X8 ss zs sz sg := by
  refine ⟨C.pa.read D f oV, ?_, fun s hs a ha => ⟨(C.ro s hs a ha).1, Nat.lt_of_lt_of_le (C.ro s hs a ha).2.1 f.le, (C.ro s hs a ha).2.2⟩⟩
  exact C.sb.monoM fun s t hs h => ⟨h.1, h.2.fr fun a ha => f.eq a (C.ro s hs a ha).2.1 (by have := (C.ro s hs a ha).1; omega)⟩
/-- One object that nobody names has turned. -/
theorem PaH.fr1 (C : PaH g h V st xi en SV ZV X8 ss zs sz) {e0 : Nat} (f : Fr (fun a => a = e0) h h') (h1 : g.next + 2 ≤ e0) (h2 : e0 ≠ xi) (h3 : SV.obj ≠ some e0) (h4 : ZV.obj ≠ some e0) (h5 : X8.obj ≠ some e0) : PaH g h' V st xi en SV ZV X8 ss zs sz := by
  have hn := C.xl
  have ne : ∀ {U : LV}, U.obj ≠ some e0 → ∀ a, U.obj = some a → ¬ a = e0 := fun hU a ha e => hU (e ▸ ha)
  exact ⟨C.lo.trans (f.mono fun a _ e => by omega), (f.eq _ (by omega) (by omega)).trans C.x2, ⟨(f.eq _ C.rd.lt (by omega)).trans C.rd.at_, C.rd.row.fr fun a ha => f.eq a (Nat.lt_of_lt_of_le (C.vlo a ha) C.lo.le) (by have := C.vlo a ha; omega), C.rd.capd, C.rd.ne, Nat.lt_of_lt_of_le C.rd.lt f.le⟩, C.vlo,
    (f.eq _ hn.2 (fun e => h2 e.symm)).trans C.im, ⟨hn.1, Nat.lt_of_lt_of_le hn.2 f.le⟩, C.sv.up f (ne h3), C.zv.up f (ne h4), C.x8.up f (ne h5), C.d1, C.d2, C.d3, C.mi.fr fun a ha => f.eq a (C.sv.lo a ha).2 (ne h3 a ha)⟩
theorem PbH.fr1 {sg : List Seg} (C : PbH g h V st xi en SV ZV X8 ss zs sz sg) {e0 : Nat} (f : Fr (fun a => a = e0) h h') (h1 : g.next + 2 ≤ e0) (h2 : e0 ≠ xi) (h3 : SV.obj ≠ some e0) (h4 : ZV.obj ≠ some e0) (h5 : X8.obj ≠ some e0) (h6 : ∀ s ∈ ss, s.2.obj ≠ some e0) : PbH g h' V st xi en SV ZV X8 ss zs sz sg := by
  refine ⟨C.pa.fr1 f h1 h2 h3 h4 h5, ?_, fun s hs a ha => ⟨(C.ro s hs a ha).1, Nat.lt_of_lt_of_le (C.ro s hs a ha).2.1 f.le, (C.ro s hs a ha).2.2⟩⟩
  exact C.sb.monoM fun s t hs h => ⟨h.1, h.2.fr fun a ha => f.eq a (C.ro s hs a ha).2.1 fun e => h6 s hs (e ▸ ha)⟩
theorem segE_set (x : Int) {A U : LV} (hA : A.cell = true) (hU : U.cell = true) : segE.f (x, U) = (segE.f (x, A)).set 1 U := by
  simp only [segE, hA, hU, if_true]; rfl
theorem PbH.body {sg : List Seg} (C : PbH g h V st xi en SV ZV X8 ss zs sz sg) {k : Nat} {x : Int} {A U : LV} {bs bs' : List Int} (hs : ss[k]? = some (x, A)) (hg : sg[k]? = some (x, bs)) (RU : Row h U byteE bs') (hU : ∀ a, U.obj = some a → g.next + 2 ≤ a ∧ a < h.next ∧ SV.obj ≠ some a) (hA : A.cell = true) :
    ∃ a off H, SV.at 2 k = .ptr a off ∧ storeV 1 (.ptr a (off + 1)) U h = some H ∧ PbH g H V st xi en SV ZV X8 (ss.set k (x, U)) zs sz (sg.set k (x, bs')) := by
  have cU := RU.cell
  obtain ⟨a, off, vs, own, e1, e2, e3, e4, e5, e6, e7⟩ := C.pa.sv.row.stf C.pa.mi (j := 1) (v := U) (y := (x, U)) hs (by decide) (segE_set x hA cU)
  have f : Fr (fun b => b = a) h (h.set a (.cells (vs.set (off + 1) U) own)) := Fr.set _ rfl
  have lo := C.pa.sv.lo a e2
  have P := C.pa
  refine ⟨a, off, _, e1, by rw [store_o _ _ _ cU, e3]; exact e4, ⟨⟨P.lo.set' _ (.inl (by omega)), ?_, ?_, P.vlo, ?_, P.xl, ⟨e5, e6 P.sv.grow, P.sv.lo⟩, P.zv.up f ?_, P.x8.up f ?_, P.d1, P.d2, P.d3, e7⟩, ?_, ?_⟩⟩
  · rw [get_set_ne _ _ (by omega)]; exact P.x2
  · exact ⟨by rw [get_set_ne _ _ (by omega)]; exact P.rd.at_, P.rd.row.fr fun b hb => get_set_ne _ _ (by have := P.vlo b hb; omega), P.rd.capd, P.rd.ne, P.rd.lt⟩
  · rw [get_set_ne _ _ (fun e : xi = a => P.d1.1 (by rw [e]; exact e2))]; exact P.im
  · rintro b hb rfl; exact (P.d2 _ e2).1 hb
  · rintro b hb rfl; exact (P.d2 _ e2).2 hb
  · refine (C.sb.monoM (S := SegR (h.set a (.cells (vs.set (off + 1) U) own))) fun s t hs h => ⟨h.1, h.2.fr fun b hb => get_set_ne _ _ fun e => (C.ro s hs b hb).2.2 (e ▸ e2)⟩).set k ⟨rfl, RU.fr fun b hb => get_set_ne _ _ fun e => (hU b hb).2.2 (e ▸ e2)⟩
  · intro s hs' b hb
    rcases List.mem_or_eq_of_mem_set hs' with h1 | rfl
    · exact C.ro s h1 b hb
    · exact hU b hb
end Go.Proofs.Ytaofgdibpbpalaa
