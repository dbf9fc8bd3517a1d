/-
  parapetlaw23.ImageParses returns true: the law.
-/
import Derived.Test.YtaofgdibpbpalaaImU
import Derived.Test.YtaofgdibpbpalaaImE
set_option linter.all false
namespace Go.Proofs.Ytaofgdibpbpalaa
open Go.ChangeShapes Go.WideShapes Go.ChangeAt Go.RowKit Go.Lm
set_option linter.unusedSimpArgs false
def ImgT (SV ZV : LV) (ss : List (Int × LV)) (segs : List Seg) (zs : List (Int × Int)) : Thing :=
  ⟨fun a => SV.obj = some a ∨ ZV.obj = some a ∨ ∃ s ∈ ss, s.2.obj = some a, fun h => Img h SV ZV ss segs zs, fun _ _ k H =>
    ⟨H.sv.fr fun a ha => k a (.inl ha), H.sb.monoM fun s _ hs r => ⟨r.1, r.2.fr fun a ha => k a (.inr (.inr ⟨s, hs, ha⟩))⟩, H.zv.fr fun a ha => k a (.inr (.inl ha))⟩⟩
theorem ImgNew.add {F : Nat → Prop} {g h h' : LHeap} {Ts : List Thing} {SV ZV : LV} {ss : List (Int × LV)} {segs : List Seg} {zs : List (Int × Int)} (S : Sep F g h Ts) (I : ImgNew h.next h' SV ZV ss segs zs) (f : Fr noF h h') : Sep F g h' (Ts ++ [ImgT SV ZV ss segs zs]) :=
  S.add _ f I.img fun a ha => by
    rcases ha with ha | ha | ⟨s, hs, ha⟩
    · exact I.so a ha
    · exact I.zo a ha
    · exact I.ro s hs a ha
theorem lo_fr {h h' : LHeap} (f : Lo h.next h h') : Fr noF h h' := ⟨f.le, fun a ha _ => f.eq a ha (by omega)⟩
/-- What both Parses tell. -/
def Both (bs : List Int) (e : Int) (en : Int) (segs : List Seg) (zs : List (Int × Int)) : Prop :=
  (parseN bs = none ∧ e = 230 ∧ en = 0 ∧ segs = [] ∧ zs = []) ∨ (parseN bs = some (en, segs, zs) ∧ e = 0)
theorem parsed_sep {F : Nat → Prop} {g h h' : LHeap} {Ts : List Thing} {bs : List Int} {v : LV} (S : Sep F g h Ts) (P : Parsed h bs v h') :
    ∃ e en segs zs SV ZV ss, v = .tuple [.agg [i en, SV, ZV], i e] ∧ Both bs e en segs zs ∧ Sep F g h' (Ts ++ [ImgT SV ZV ss segs zs]) ∧ SV.cell = true ∧ ZV.cell = true := by
  obtain ⟨f, h1 | ⟨en, segs, zs, SV, ZV, ss, h1, rfl, I⟩⟩ := P
  · obtain ⟨hp, rfl⟩ := h1
    exact ⟨230, 0, [], [], .nils, .nils, [], rfl, .inl ⟨hp, rfl, rfl, rfl, rfl⟩, S.add (ImgT .nils .nils [] [] []) (lo_fr f) ⟨Row.nils _ _, trivial, Row.nils _ _⟩ (fun a ha => by
      rcases ha with ha | ha | ⟨s, hs, _⟩
      · cases ha
      · cases ha
      · cases hs), rfl, rfl⟩
  · exact ⟨0, en, segs, zs, SV, ZV, ss, rfl, .inr ⟨h1, rfl⟩, ImgNew.add S I (lo_fr f), I.img.sv.cell, I.img.zv.cell⟩
theorem Both.eq {bs : List Int} {e e' en en' : Int} {segs segs' : List Seg} {zs zs' : List (Int × Int)} (b : Both bs e en segs zs) (b' : Both bs e' en' segs' zs') : e' = e ∧ en' = en ∧ segs' = segs ∧ zs' = zs := by
  rcases b with ⟨h1, rfl, rfl, rfl, rfl⟩ | ⟨h1, rfl⟩ <;> rcases b' with ⟨h2, rfl, rfl, rfl, rfl⟩ | ⟨h2, rfl⟩
  · exact ⟨rfl, rfl, rfl, rfl⟩
  · rw [h1] at h2; cases h2
  · rw [h1] at h2; cases h2
  · rw [h1] at h2; cases h2; exact ⟨rfl, rfl, rfl, rfl⟩
theorem Both.small {bs : List Int} (hB : Bytes bs) {e en : Int} {segs : List Seg} {zs : List (Int × Int)} (b : Both bs e en segs zs) : segs.length < 2 ^ 62 ∧ zs.length < 2 ^ 62 := by
  rcases b with ⟨h1, rfl, rfl, rfl, rfl⟩ | ⟨h1, rfl⟩
  · exact ⟨by decide, by decide⟩
  · have F := checkN_facts (parse_facts hB h1).1
    have := F.sl
    have := F.zl
    omega
set_option maxRecDepth 4000 in
set_option maxHeartbeats 4000000 in
theorem parses_any {g : LHeap} {V0 : LV} {bs : List Int} (RV : Row g V0 byteE bs) (cV : Capd V0 1) (hB : Bytes bs) (hl : bs.length ≤ 2 ^ 47) : Ok Try.prog 4 [V0] g fun v _ => v = .bool true := by
  refine ok4 fun wf lt => ?_
  obtain ⟨W, h1, e1, S1, cW, f1, _⟩ := (Sep.start noF g).clone (bytes := 1) RV wf (by omega)
  have e1 : appendL 1 1 (.slice g.next 0 0 (.ex 0)) V0 (g.alloc (.cells [] .ex)) = some (W, h1) := e1
  have a1 := ap23c (V := .slice g.next 0 0 (.ex 0)) RV (g.alloc (.cells [] .ex))
  simp (disch := omega) only [F4, J4_0, J4_1, sh, bs23_0, a1, e1]
  refine (parse_ok (S1.row 0 rfl) (S1.grow 0 rfl).capd hB).mono ?_
  intro v2 h2 P2
  obtain ⟨e, en, segs, zs, SV, ZV, ss, rfl, bo, S2, c1, c2⟩ := parsed_sep S1 P2
  have S3 := S2.new [i en, SV, ZV]
  simp (disch := omega) only [J4_2, i, sh, sh2, shs, shc, shi, dec, hcp3, c1, c2]
  refine (refparse_ok (RV.old wf S3.fr) cV hB).mono ?_
  intro v4 h4 P4
  obtain ⟨e', en', segs', zs', SV', ZV', ss', rfl, bo', S4, c3, c4⟩ := parsed_sep S3 P4
  obtain ⟨rfl, rfl, rfl, rfl⟩ := bo.eq bo'
  have S5 := S4.new [i en', SV', ZV']
  have x4 := S5.cell 2 rfl
  have x6 := S5.cell 4 rfl
  simp (disch := omega) only [J4_3, i, sh, sh2, shs, shc, shi, dec, hcp3, c3, c4]
  refine lives_pure.to ?_
  simp (disch := omega) only [i, sh, sh2, x4, x6, hcp3]
  refine (same_ok (S5.at 1 rfl) (S5.at 3 rfl) (bo.small hB)).mono ?_
  rintro _ h6 ⟨rfl, f6⟩
  have S6 := S5.pure f6
  have t1 := (S6.row 0 rfl).text (P := Try.prog) ty.2.2 ty9 ty5
  have t2 := (RV.old wf S6.fr).text (P := Try.prog) ty.2.2 ty9 ty5
  have hq : (textOf bs == textOf bs) = true := by simp
  have he : (e' == e') = true := by simp
  simp (disch := omega) only [i, sh, sh2, shi, he, t1, t2, binL_neq_str, hq, J4_4, J4_6]
  have hu := RV.len (P := Try.prog) ty.2.2
  refine loop_n (fun n s h => ∃ (k : Nat) (l : List Int), s = i (k : Int) ∧ k + n = bs.length ∧ l.length = bs.length ∧ Sep noF g h [.vec byteE W l, ImgT SV ZV ss segs' zs', .cells h2.next [i en', SV, ZV], ImgT SV' ZV' ss' segs' zs', .cells h4.next [i en', SV', ZV']]) (n := bs.length)
    ⟨0, bs, rfl, by omega, rfl, S6⟩ ?_
  rintro n s h ⟨k, l, rfl, hk, hll, S⟩
  have hlW := (S.row 0 rfl).len (P := Try.prog) ty.2.2
  have eb : byteE.e = 1 := rfl
  cases n with
  | succ n =>
    obtain ⟨x, hx, _⟩ := drop_at (l := l) (k := k) (by omega)
    have ix := (S.row 0 rfl).ix (k := .i64) (i := k) (by omega)
    have lx := (S.row 0 rfl).ld1 hx rfl rfl
    obtain ⟨a, off, h', ea, es, S', _, _⟩ := S.stf 0 rfl (k := k) (j := 0) (IntKind.u8.wrap (x + 1)) (v := B (IntKind.u8.wrap (x + 1))) rfl hx (by decide) rfl
    rw [eb] at ix ea
    rw [Nat.add_zero] at es
    rw [ea] at ix lx
    simp (disch := omega) only [L4_7, i, sh, sh2, shi, dec, b_len, hlW, ix, lx, es]
    exact ⟨n, by omega, k + 1, _, by simp, by omega, by simpa using hll, S'⟩
  | zero =>
    rcases bo with ⟨_, rfl, _⟩ | ⟨hp, rfl⟩
    · simp (disch := omega) only [L4_7, J4_5, i, sh, sh2, shi, dec, b_len, hlW]
    · have x5 := S.cell 2 rfl
      obtain ⟨hN, hm, _⟩ := parse_facts hB hp
      simp (disch := omega) only [L4_7, J4_5, i, sh, sh2, shi, dec, b_len, hlW, x5, hcp3]
      refine (make_ok (S.at 1 rfl)).mono ?_
      intro v h7 M
      rcases M with ⟨_, V, rfl, O, f7⟩ | ⟨hN', _⟩
      · have t3 := O.row.text (P := Try.prog) ty.2.2 ty9 ty5
        have t4 := (RV.old wf (S.fr.trans (lo_fr f7))).text (P := Try.prog) ty.2.2 ty9 ty5
        rw [hm] at t3
        simp (disch := omega) only [i, sh, sh2, shi, dec, t3, t4, binL_eql_str, hq]
      · omega
end Go.Proofs.Ytaofgdibpbpalaa
