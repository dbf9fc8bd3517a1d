/-
  parapetlaw23.ImageLonger returns true: the law.
-/
import Derived.Test.YtaofgdibpbpalaaImE
import Derived.Test.YtaofgdibpbpalaaImF
import Derived.Test.YtaofgdibpbpalaaLm6x
set_option linter.all false
namespace Go.Proofs.Ytaofgdibpbpalaa
open Go.ChangeShapes Go.WideShapes Go.ChangeAt Go.RowKit Go.Lm
set_option linter.unusedSimpArgs false
theorem Row.lo {X : Type} {E : Enc X} {g h : LHeap} {V : LV} {l : List X} (R : Row g V E l) (wf : g.Wf) (f : Lo g.next g h) : Row h V E l := by
  rcases R with R | ⟨a, off, cap, vs, own, rfl, hg, hv, hl⟩
  · exact .inl R
  · have ha := wf.lt a _ hg
    exact .inr ⟨a, off, cap, vs, own, rfl, (f.eq a ha (by omega)).trans hg, hv, hl⟩
theorem ap23r {V U : LV} {us : List Int} {h : LHeap} (R : Row h U byteE us) (g : LHeap) : builtinL Try.prog .append [23, 23] [V, U] g = appendL 1 1 V U g := ap23 R.not_str g
set_option maxRecDepth 4000 in
set_option maxHeartbeats 4000000 in
/-- The end: fewer bytes are no image. -/
theorem longer_end {g : LHeap} {V : LV} {en : Int} {segs : List Seg} {zs : List (Int × Int)} (R : Row g V byteE (makeB en segs zs)) (cV : Capd V 1) (hN : checkN en segs zs = 0) (hf : Fits segs) (hB : ∀ s ∈ segs, Bytes s.2) (less : Int) :
    J5_5 (i less) V g fun v _ => v = .bool true := by
  have hl := R.len (P := Try.prog) ty.2.2
  have h0 : 10 ≤ (makeB en segs zs).length := by rw [makeB_len]; omega
  have h1 := makeB_short hN
  generalize hn : (makeB en segs zs).length = n at *
  have q : ∀ m : Nat, m < n → J5_7 V (i m) g fun v _ => v = .bool true := fun m hm => by
    obtain ⟨U, eU, RU, cU, oU, _⟩ := R.cut cV (i := 0) (j := m) (by omega) (by omega) none (some (m : Int)) rfl rfl
    have e1 : byteE.e = 1 := rfl
    rw [e1] at eU cU
    have RU : Row g U byteE ((makeB en segs zs).take m) := by simpa using RU
    simp (disch := omega) only [J5_7, i, cut_t ty.2.2 sz5 Nat.one_ne_zero, eU, sh]
    refine (parse_ok RU cU fun x hx => makeB_bytes hB x (List.mem_of_mem_take hx)).mono ?_
    rintro v h7 ⟨f7, hP⟩
    rw [parse_shorter hN hf (makeB_bytes hB) (by omega)] at hP
    rcases hP with ⟨_, rfl⟩ | ⟨en', segs', zs', SV', ZV', ss', hP, _⟩
    · simp (disch := omega) only [i, sh, sh2, shi, dec]
    · cases hP
  have hr0 := Int.tmod_lt_of_pos less (show (0 : Int) < n by omega)
  have hr1 := Int.lt_tmod_of_pos less (show (0 : Int) < n by omega)
  simp (disch := omega) only [J5_5, J5_6, i, sh, sh2, shi, dec, b_len, hl, hn, binL_rem_int]
  by_cases hs : less.tmod n < 0
  · simp (disch := omega) only [i, sh, sh2, shi, dec]
    obtain ⟨m, hm⟩ := Int.eq_ofNat_of_zero_le (a := less.tmod n + n) (by omega)
    rw [hm]
    exact q m (by omega)
  · simp (disch := omega) only [i, sh, sh2, shi, dec]
    obtain ⟨m, hm⟩ := Int.eq_ofNat_of_zero_le (a := less.tmod n) (by omega)
    rw [hm]
    exact q m (by omega)
set_option maxRecDepth 4000 in
set_option maxHeartbeats 4000000 in
theorem longer_any {g : LHeap} {en : Int} {SV ZV U : LV} {ss : List (Int × LV)} {segs : List Seg} {zs : List (Int × Int)} {bh : List Int} (H : Img g SV ZV ss segs zs) (hf : Fits segs) (hB : ∀ s ∈ segs, Bytes s.2) (RU : Row g U byteE bh) (hU : Bytes bh) (hl : bh.length ≤ 2 ^ 47) (less : Int) :
    Ok Try.prog 5 [.agg [i en, SV, ZV], U, i less] g fun v _ => v = .bool true := by
  refine ok5 fun wf lt => ?_
  have f0 : Lo g.next g (g.alloc (.cells [i en, SV, ZV] .ex)) := (Fr.alloc g _).mono fun _ _ => False.elim
  have x0 : (g.alloc (.cells [i en, SV, ZV] .ex)).get g.next = some (.cells [i en, SV, ZV] .ex) := get_alloc_eq _ _
  simp (disch := omega) only [F5, J5_0, i, sh, sh2, shs, shc, shi, dec, H.sv.cell, H.zv.cell, hcp3]
  refine call_w (make_ok (H.lo wf f0)) ?_
  intro v1 h1 M1 _ wf1 _
  have f1 := M1.lo
  have x1 : h1.get g.next = some (.cells [i en, SV, ZV] .ex) := (f1.eq _ (Nat.lt_succ_self _) (by simp only [LHeap.next_alloc]; omega)).trans x0
  have lo1 := Fr.up' f0 f1
  have n1' := f1.le
  simp only [LHeap.next_alloc] at n1'
  rcases M1 with ⟨hN, V1, rfl, vec1, _⟩ | ⟨hN, rfl, _⟩
  rotate_left
  · simp (disch := omega) only [i, sh, sh2, J5_1]
    refine lives_pure.to ?_
    simp (disch := omega) only [J5_2, i, sh, sh2, shs, shc, shi, dec, b_len, len_nils ty.2.2]
  simp (disch := omega) only [i, sh, sh2, J5_1]
  refine lives_pure.to ?_
  simp (disch := omega) only [J5_2, J5_3, i, sh, sh2, shs, shc, shi, dec, bs23_0]
  have hms := makeB_short hN
  obtain ⟨W, h2, e2, O2, _, f2⟩ := Vec.clone (bytes := 1) vec1.row wf1 (by omega)
  have e2 : appendL 1 1 (.slice h1.next 0 0 (.ex 0)) V1 (h1.alloc (.cells [] .ex)) = some (W, h2) := e2
  have a2 := ap23r (V := .slice h1.next 0 0 (.ex 0)) vec1.row (h1.alloc (.cells [] .ex))
  have lo2 : Lo g.next g h2 := lo1.trans (f2.mono fun _ _ => False.elim)
  have RU2 := Row.lo RU wf lo2
  have n2 := f2.le
  obtain ⟨W', h3, e3, O3, f3, _⟩ := O2.app (bytes := 1) RU2 (by omega) n2
  have e3 : appendL 1 1 W U h2 = some (W', h3) := e3
  have a3 := ap23r (V := W) RU2 h2
  have f13 : Lo h1.next h1 h3 := (f2.mono fun _ _ => False.elim).trans (f3.mono fun a _ h => (O2.lo a h).1)
  have lo3 : Lo g.next g h3 := Fr.up' lo1 f13
  have n3 := f3.le
  have vec3 : Vec byteE g.next h3 V1 (makeB en segs zs) := ⟨vec1.row.fr fun a ha => f13.eq a (vec1.lo a ha).2 (by have := (vec1.lo a ha).2; omega), vec1.grow.fr fun a ha => f13.eq a (vec1.lo a ha).2 (by have := (vec1.lo a ha).2; omega), fun a ha => ⟨by have := (vec1.lo a ha).1; simp only [LHeap.next_alloc] at this; omega, by have := (vec1.lo a ha).2; omega⟩⟩
  have x3 := (f13.eq g.next (by omega) (by omega)).trans x1
  simp (disch := omega) only [a2, e2, a3, e3, sh]
  refine call_w (parse_ok O3.row O3.grow.capd ((makeB_bytes hB).app hU)) ?_
  rintro v4 h4 ⟨f4, hP⟩ n4 wf4 _
  have x4 := (f4.eq g.next (by omega) (by omega)).trans x3
  have lo4 := Fr.up' lo3 f4
  have vec4 : Vec byteE g.next h4 V1 (makeB en segs zs) := ⟨vec3.row.fr fun a ha => f4.eq a (vec3.lo a ha).2 (by have := (vec3.lo a ha).2; omega), vec3.grow.fr fun a ha => f4.eq a (vec3.lo a ha).2 (by have := (vec3.lo a ha).2; omega), fun a ha => ⟨(vec3.lo a ha).1, by have := (vec3.lo a ha).2; omega⟩⟩
  by_cases hb0 : bh = []
  · subst hb0
    rw [List.append_nil, parse_make hN hf] at hP
    rcases hP with ⟨hP, _⟩ | ⟨en', segs', zs', SV', ZV', ss', hP, rfl, IN⟩
    · cases hP
    cases hP
    have F := checkN_facts hN
    have a1 : (h4.alloc (.cells [i en, SV', ZV'] .ex)).get g.next = some (.cells [i en, SV, ZV] .ex) := by rw [get_alloc_ne _ _ (by omega)]; exact x4
    have lo8 : Lo g.next g (h4.alloc (.cells [i en, SV', ZV'] .ex)) := lo4.alloc' _
    have I2 : Img (h4.alloc (.cells [i en, SV', ZV'] .ex)) SV' ZV' ss' segs zs := by
      have up : ∀ {X : Type} {E : Enc X} {U : LV} {l : List X}, Row h4 U E l → (∀ a, U.obj = some a → h3.next ≤ a ∧ a < h4.next) → Row (h4.alloc (.cells [i en, SV', ZV'] .ex)) U E l := fun r hr => r.fr fun a ha => get_alloc_ne _ _ (by have := hr a ha; omega)
      exact ⟨up IN.img.sv IN.so, IN.img.sb.monoM fun s t hs h => ⟨h.1, up h.2 (IN.ro s hs)⟩, up IN.img.zv IN.zo⟩
    have hlb := RU.len (P := Try.prog) ty.2.2
    simp (disch := omega) only [J5_4, i, sh, sh2, shs, shc, shi, dec, IN.img.sv.cell, IN.img.zv.cell, hcp3, a1, b_len, hlb, List.length_nil]
    refine call_w (same_ok (H.lo wf lo8) I2 ⟨by have := F.sl; omega, by have := F.zl; omega⟩) ?_
    rintro _ h8 ⟨rfl, f8⟩ _ wf8 _
    simp (disch := omega) only [sh, sh2]
    have vec8 := (vec4.up (Fr.alloc h4 (.cells [i en, SV', ZV'] .ex)) fun _ _ => id).up f8 fun _ _ => id
    exact longer_end vec8.row vec8.grow.capd hN hf hB less
  · rw [parse_longer hN hf hb0] at hP
    rcases hP with ⟨_, rfl⟩ | ⟨en', segs', zs', SV', ZV', ss', hP, _⟩
    rotate_left
    · cases hP
    have hb1 : bh.length ≠ 0 := fun h => hb0 (List.length_eq_zero_iff.1 h)
    have hlb := RU.len (P := Try.prog) ty.2.2
    simp (disch := omega) only [J5_4, i, sh, sh2, shs, shc, shi, dec, hcp3, b_len, hlb]
    have vec5 := vec4.up (Fr.alloc h4 (.cells [i 0, .nils, .nils] .ex)) fun _ _ => id
    exact longer_end vec5.row vec5.grow.capd hN hf hB less
end Go.Proofs.Ytaofgdibpbpalaa
