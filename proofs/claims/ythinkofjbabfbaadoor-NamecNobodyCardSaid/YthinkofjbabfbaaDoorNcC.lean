/-
  namec's reference: a path's names; the law's comparison.
-/
import Derived.Test.YthinkofjbabfbaaDoorNcB
set_option linter.all false
namespace Go.Proofs.YthinkofjbabfbaaDoor
open Go.ChangeShapes Go.WideShapes Go.ChangeAt Go.RowKit Go.Lm
set_option linter.unusedSimpArgs false
set_option linter.unusedVariables false
set_option maxRecDepth 10000
theorem u5 : Tryd.prog.underlying 5 = some (.int .u8) := by kernel_rfl
theorem ty88 : Tryd.prog.underlying 88 = some (.slice 5) := by kernel_rfl
theorem bs88_1 (h : LHeap) (x : Int) : buildSliceL Tryd.prog 88 1 [(0, .int .u8 x)] h = some (.slice h.next 0 1 (.ex 1), h.alloc (.cells [.int .u8 x] .ex)) := nr (by kernel_rfl)
theorem conv88 (h : LHeap) (b : UInt8) : convL Tryd.prog 88 9 (.slice h.next 0 1 (.ex 1)) (h.alloc (.cells [.int .u8 (b.toNat : Int)] .ex)) = some (.str [b], h.alloc (.cells [.int .u8 (b.toNat : Int)] .ex)) := by
  have R : Row (h.alloc (.cells [.int .u8 (b.toNat : Int)] .ex)) (.slice h.next 0 1 (.ex 1)) byteE [(b.toNat : Int)] := Row.lit (E := byteE) h (b.toNat : Int) _ rfl _
  rw [R.text ty88 u9 u5]
  simp [textOf]
theorem cat9 (a b : Str) (h : a.length + b.length < 2 ^ 62) : binL Tryd.prog .add 9 false (.str a) (.str b) = some (.str (a ++ b)) := by
  show strBin .add a b = _
  simp only [strBin]
  rw [if_neg]
  have : IntKind.i64.max = 9223372036854775807 := by decide
  rw [this]; omega
def segsP (nm : Str) (s : Str) : List Str := match segs s with | x :: r => (nm ++ x) :: r | [] => [nm]
theorem segsP_nil (nm : Str) : segsP nm [] = [nm] := by simp [segsP, segs]
theorem segsP_slash (nm l : Str) : segsP nm (47 :: l) = nm :: segs l := by simp [segsP, segs]
theorem segsP_empty (l : Str) : segsP [] l = segs l := by
  unfold segsP
  cases h : segs l with
  | nil => exact absurd h (segs_ne l)
  | cons x r => rfl
theorem segsP_byte {b : UInt8} (hb : b ≠ 47) (nm l : Str) : segsP nm (b :: l) = segsP (nm ++ [b]) l := by
  unfold segsP
  rw [segs, if_neg hb]
  cases h : segs l with
  | nil => exact absurd h (segs_ne l)
  | cons x r => simp
section
variable {g h : LHeap} {s : Str}
/-- Behind k bytes. -/
def RSt (s : Str) (k : Nat) (dn : List Str) (nm : Str) : Prop :=
  (if k ≤ s.length then segs s = dn ++ segsP nm (s.drop k) else segs s = dn) ∧ (∀ x ∈ dn, x.length ≤ 14) ∧ (0 : UInt8) ∉ s.take k ∧ nm.length ≤ k ∧ dn.length ≤ k
set_option maxHeartbeats 1000000 in
/-- The reference's Split. -/
theorem split12 (s : Str) (hm : s.length < 9223372036854775808) : Ok Tryd.prog 12 [.str s] g fun v h => Answered s v g h := by
  refine ok12 fun _ _ => ?_
  have l0 := slen s
  have bad : ∀ {h : LHeap}, Fr noF g h → ¬ FineP s → Answered s (.tuple [.nils, .int .i64 190]) g h := fun f hn => ⟨f, .inr ⟨hn, rfl⟩⟩
  by_cases h1 : s.length < 1
  · simp (disch := omega) only [F12, J12_0, i, sh, sh2, shi, dec, b_len, l0]
    exact bad (Fr.refl _ _) fun hf => by have := hf.1; omega
  by_cases h2 : 64 < s.length
  · simp (disch := omega) only [F12, J12_0, i, sh, sh2, shi, dec, b_len, l0]
    exact bad (Fr.refl _ _) fun hf => by have := hf.2.1; omega
  obtain ⟨b, hb⟩ : ∃ b, s[0]? = some b := ⟨_, List.getElem?_eq_getElem (by omega)⟩
  have ix0 := ixS hb
  have c0 : ((0 : Nat) : Int) = 0 := rfl
  rw [c0] at ix0
  by_cases h3 : (b.toNat : Int) = 47
  · have hb47 : b = 47 := by
      have : b.toNat = (47 : UInt8).toNat := by show b.toNat = 47; omega
      exact UInt8.toNat_inj.1 this
    subst hb47
    have hhd : s.head? = some 47 := by rw [List.head?_eq_getElem?]; exact hb
    simp (disch := omega) only [F12, J12_0, i, sh, sh2, shi, dec, b_len, l0, ix0, J12_1, J12_2, J12_3, J12_5]
    refine loop_n (fun n (st : LV × LV × LV) h => ∃ (k : Nat) (W : LV) (dn : List Str) (nm : Str), st = (W, .str nm, i (k : Int)) ∧ k + n = s.length + 1 ∧ RSt s k dn nm ∧ Sep noF g h [Thing.vec strE W (dn.filter nz)]) (n := s.length + 1)
      ⟨0, .nils, [], [], rfl, by omega, ⟨by rw [if_pos (by omega), List.drop_zero, segsP_empty]; rfl, by simp, by simp, by simp, by simp⟩, by simpa using (Sep.start noF g).nils strE⟩ ?_
    rintro n st h ⟨k, W, dn, nm, rfl, hk, ⟨r1, r2, r3, r4, r5⟩, Sp⟩
    have RW := Sp.row (E := strE) (V := W) (l := dn.filter nz) 0 rfl
    have hlW := fun g' => RW.len (P := Tryd.prog) ty22 (g' := g')
    have hfl : (dn.filter nz).length ≤ dn.length := List.length_filter_le _ _
    have lnm := slen nm
    cases n with
    | zero =>
      obtain rfl : k = s.length + 1 := by omega
      rw [if_neg (by omega)] at r1
      rw [← r1] at r2 RW hlW Sp hfl
      have r3 : (0 : UInt8) ∉ s := by rwa [List.take_of_length_le (by omega)] at r3
      have hsl := segs_len s
      have hcl : s.count 47 ≤ s.length := List.count_le_length
      by_cases h32 : 32 < (namesS s).length
      · have h32' : 32 < ((segs s).filter nz).length := h32
        simp (disch := omega) only [L12_6, J12_4, i, sh, sh2, shi, dec, b_len, l0, hlW]
        exact bad Sp.fr fun hf => by have := hf.2.2.2.2.2; omega
      · have h32' : ¬ 32 < ((segs s).filter nz).length := h32
        simp (disch := omega) only [L12_6, J12_4, i, sh, sh2, shi, dec, b_len, l0, hlW]
        exact ⟨Sp.fr, .inl ⟨⟨by omega, by omega, hhd, r3, r2, by omega⟩, W, rfl, RW, fun b hb => Sp.lt (T := Thing.vec strE W ((segs s).filter nz)) 0 rfl hb⟩⟩
    | succ n =>
      have hkl : k ≤ s.length := by omega
      rw [if_pos hkl] at r1
      -- a name ends
      have ends : ∀ (rest : List Str), segs s = dn ++ nm :: rest → (14 < nm.length → Answered s (.tuple [.nils, .int .i64 190]) g h) := fun rest e hx => bad Sp.fr fun hf => by
        have := hf.2.2.2.2.1 nm (by rw [e]; simp); omega
      have fin : ∀ (rest : List Str) (W' : LV) (h' : LHeap), segs s = dn ++ nm :: rest → (if k + 1 ≤ s.length then rest = segs (s.drop (k + 1)) else rest = []) → (0 : UInt8) ∉ s.take (k + 1) → nm.length ≤ 14 → Sep noF g h' [Thing.vec strE W' ((dn ++ [nm]).filter nz)] →
          ∃ m, m < n + 1 ∧ ∃ (k' : Nat) (W : LV) (dn : List Str) (nm : Str), (W', LV.str [], LV.int .i64 ((k : Int) + 1)) = (W, LV.str nm, LV.int .i64 (k' : Int)) ∧ k' + m = s.length + 1 ∧ RSt s k' dn nm ∧ Sep noF g h' [Thing.vec strE W (dn.filter nz)] := by
        intro rest W' h' e he h0 hx S'
        refine ⟨n, by omega, k + 1, W', dn ++ [nm], [], by simp, by omega, ⟨?_, fun x hx' => ?_, h0, by simp, by simp; omega⟩, S'⟩
        · split
          · rename_i hh
            rw [if_pos hh] at he
            rw [e, he, segsP_empty]; simp
          · rename_i hh
            rw [if_neg hh] at he
            rw [e, he]
        · rcases List.mem_append.1 hx' with hx' | hx'
          · exact r2 x hx'
          · rw [List.mem_singleton] at hx'; subst hx'; exact hx
      have fe : nm = [] → Sep noF g h [Thing.vec strE W ((dn ++ [nm]).filter nz)] := fun e => by
        rw [e, List.filter_append]; have : ([[]] : List Str).filter nz = [] := rfl; rw [this, List.append_nil]; exact Sp
      have fb : nm ≠ [] → ∃ V' h', builtinL Tryd.prog .append [22, 22] [W, .slice h.next 0 1 (.ex 1)] (h.alloc (.cells [.str nm] .ex)) = some (V', h') ∧ Sep noF g h' [Thing.vec strE V' ((dn ++ [nm]).filter nz)] := fun e => by
        obtain ⟨V', h', e', S4, c4, _⟩ := Sp.push (E := strE) (V := W) 0 rfl (bytes := 16) nm (cs := [.str nm]) rfl (by omega)
        have e' : appendL 1 16 W _ _ = _ := e'
        have ap := ap22 (V := W) (U := .slice h.next 0 1 (.ex 1)) rfl (h.alloc (.cells [.str nm] .ex))
        rw [e'] at ap
        exact ⟨V', h', ap, by rw [List.filter_append, nz_one e]; exact S4⟩
      have bs := bs22_1 h nm
      have ne : ∀ x : Str, binL Tryd.prog .neq 9 true (.str x) (.str []) = some (.bool !(x == [])) := fun _ => rfl
      have neE : nm = [] → binL Tryd.prog .neq 9 true (.str nm) (.str []) = some (.bool false) := fun e => by rw [ne, e]; rfl
      have neN : nm ≠ [] → binL Tryd.prog .neq 9 true (.str nm) (.str []) = some (.bool true) := fun e => by rw [ne, beq_eq_false_iff_ne.2 e]; rfl
      by_cases hke : k = s.length
      · subst hke
        rw [List.drop_length, segsP_nil] at r1
        have h0 : (0 : UInt8) ∉ s.take (s.length + 1) := by rw [List.take_of_length_le (by omega)]; rwa [List.take_length] at r3
        by_cases hx : 14 < nm.length
        · simp (disch := omega) only [L12_6, i, sh, sh2, shi, dec, b_len, l0, lnm]
          exact ends [] r1 hx
        · by_cases hxe : nm = []
          · have neE := neE hxe
            simp (disch := omega) only [L12_6, i, sh, sh2, shi, dec, b_len, l0, lnm, neE]
            exact fin [] W h r1 (by rw [if_neg (by omega)]) h0 (by omega) (fe hxe)
          · have neN := neN hxe
            obtain ⟨V', h', ap, S4⟩ := fb hxe
            simp (disch := omega) only [L12_6, i, sh, sh2, shi, dec, b_len, l0, lnm, neN, bs, ap]
            exact fin [] V' h' r1 (by rw [if_neg (by omega)]) h0 (by omega) S4
      · obtain ⟨c, hc, hd⟩ := drop_at (l := s) (k := k) (by omega)
        have ixk := ixS hc
        have tk := take_snoc hc
        rw [hd] at r1
        by_cases h47 : (c.toNat : Int) = 47
        · have hc47 : c = 47 := by
            have : c.toNat = (47 : UInt8).toNat := by show c.toNat = 47; omega
            exact UInt8.toNat_inj.1 this
          subst hc47
          rw [segsP_slash] at r1
          have h0 : (0 : UInt8) ∉ s.take (k + 1) := by
            rw [tk]
            intro hh
            rcases List.mem_append.1 hh with hh | hh
            · exact r3 hh
            · simp at hh
          by_cases hx : 14 < nm.length
          · simp (disch := omega) only [L12_6, i, sh, sh2, shi, dec, b_len, l0, lnm, ixk]
            exact ends _ r1 hx
          · by_cases hxe : nm = []
            · have neE := neE hxe
              simp (disch := omega) only [L12_6, i, sh, sh2, shi, dec, b_len, l0, lnm, ixk, neE]
              exact fin _ W h r1 (by rw [if_pos (by omega)]) h0 (by omega) (fe hxe)
            · have neN := neN hxe
              obtain ⟨V', h', ap, S4⟩ := fb hxe
              simp (disch := omega) only [L12_6, i, sh, sh2, shi, dec, b_len, l0, lnm, ixk, neN, bs, ap]
              exact fin _ V' h' r1 (by rw [if_pos (by omega)]) h0 (by omega) S4
        · have hc47 : c ≠ 47 := fun e => h47 (by rw [e]; rfl)
          by_cases h00 : (c.toNat : Int) = 0
          · have hc0 : c = 0 := by
              have : c.toNat = (0 : UInt8).toNat := by show c.toNat = 0; omega
              exact UInt8.toNat_inj.1 this
            simp (disch := omega) only [L12_6, i, sh, sh2, shi, dec, b_len, l0, lnm, ixk]
            exact bad Sp.fr fun hf => hf.2.2.2.1 (hc0 ▸ List.mem_of_getElem? hc)
          · have hc0 : c ≠ 0 := fun e => h00 (by rw [e]; rfl)
            have bs := bs88_1 h (c.toNat : Int)
            have cv := conv88 h c
            have ct := cat9 nm [c] (by simp; omega)
            simp (disch := omega) only [L12_6, i, sh, sh2, shi, dec, b_len, l0, lnm, ixk, bs, cv, ct]
            refine ⟨n, by omega, k + 1, W, dn, nm ++ [c], by simp, by omega, ⟨?_, r2, ?_, by rw [List.length_append]; simp; omega, by omega⟩, Sp.temp _⟩
            · rw [if_pos (by omega), r1, segsP_byte hc47]
            · rw [tk]
              intro hh
              rcases List.mem_append.1 hh with hh | hh
              · exact r3 hh
              · rw [List.mem_singleton] at hh; exact hc0 hh.symm
  · simp (disch := omega) only [F12, J12_0, i, sh, sh2, shi, dec, b_len, l0, ix0]
    exact bad (Fr.refl _ _) fun hf => h3 (by
      have := head_at hf.2.2.1
      rw [hb] at this; cases this; rfl)
theorem neqS (a : Str) : binL Tryd.prog .neq 9 false (.str a) (.str a) = some (.bool false) := by
  show strBin .neq a a = _
  simp [strBin]
/-- Two rows of the same texts. -/
theorem same14 {V W : LV} {l : List Str} (R : Row g V strE l) (Q : Row g W strE l) (hl : l.length < 4096) : Ok Tryd.prog 14 [V, W] g fun v h => v = .bool true ∧ h = g := by
  refine ok14 fun _ _ => ?_
  have h1 := fun g' => R.len (P := Tryd.prog) ty22 (g' := g')
  have h2 := fun g' => Q.len (P := Tryd.prog) ty22 (g' := g')
  simp (disch := omega) only [F14, J14_0, J14_1, J14_3, i, sh, sh2, shi, dec, b_len, h1, h2]
  refine loop_n (fun n (st : LV) h => ∃ k : Nat, st = i (k : Int) ∧ k + n = l.length ∧ h = g) (n := l.length) ⟨0, rfl, by omega, rfl⟩ ?_
  rintro n st h ⟨k, rfl, hk, rfl⟩
  cases n with
  | zero =>
    simp (disch := omega) only [L14_4, J14_2, i, sh, sh2, shi, dec, b_len, h1]
    exact ⟨trivial, trivial⟩
  | succ n =>
    obtain ⟨x, hx, _⟩ := drop_at (l := l) (k := k) (by omega)
    have i1 := R.ix (k := .i64) (i := k) (by omega)
    have i2 := Q.ix (k := .i64) (i := k) (by omega)
    have d1 := R.ld1 hx rfl rfl
    have d2 := Q.ld1 hx rfl rfl
    have e3 : strE.e = 1 := rfl
    rw [e3] at i1 i2
    have ne := neqS x
    simp (disch := omega) only [L14_4, i, sh, sh2, shi, dec, b_len, h1, i1, i2, d1, d2, ne]
    exact ⟨n, by omega, k + 1, by simp, by omega, trivial⟩
theorem eql23 (a : Int) : binL Tryd.prog .eql 23 false (i a) (i a) = some (.bool true) := by
  have : binL Tryd.prog .eql 23 false (i a) (i a) = some (.bool (a == a)) := nr (by kernel_rfl)
  rw [this]; simp
/-- NamecSplits. -/
theorem splits_any (s : Str) (hm : s.length < 9223372036854775808) : Ok Tryd.prog 3 [.str s] g fun v _ => v = .bool true := by
  refine ok3 fun wf _ => ?_
  simp only [F3]
  refine (split11 s hm).mono ?_
  rintro v h1 ⟨f1, hv⟩
  have ext : ∀ {v : LV} {g h : LHeap}, Answered s v g h → ∃ V k, v = .tuple [V, .int .i64 k] ∧ Row h V strE (if k = 0 then namesS s else []) ∧ (k = 0 ↔ FineP s) ∧ (k = 0 ∨ k = 190) ∧ ∀ b, V.obj = some b → b < h.next := by
    rintro v g h ⟨_, hv⟩
    rcases hv with ⟨hf, V, rfl, R, lt⟩ | ⟨hf, rfl⟩
    · exact ⟨V, 0, rfl, R, by simp [hf], .inl rfl, lt⟩
    · exact ⟨.nils, 190, rfl, Row.nils _ _, by simp [hf], .inr rfl, fun b hb => by cases hb⟩
  obtain ⟨V, k, rfl, RV, hk, hkk, ltV⟩ := ext ⟨f1, hv⟩
  have ex : ∀ k V, extractL (.tuple [V, .int .i64 k]) 0 = some V ∧ extractL (.tuple [V, .int .i64 k]) 1 = some (.int .i64 k) := fun _ _ => ⟨rfl, rfl⟩
  simp (disch := omega) only [i, sh, sh2, ex]
  refine (split12 s hm).mono ?_
  rintro v h2 ⟨f2, hv2⟩
  obtain ⟨W, k', rfl, RW, hk', hkk', _⟩ := ext ⟨f2, hv2⟩
  have ekk : k = k' := by
    rcases hkk with rfl | rfl
    · exact (hk'.2 (hk.1 rfl)).symm
    · rcases hkk' with rfl | rfl
      · exact absurd (hk.2 (hk'.1 rfl)) (by decide)
      · rfl
  subst ekk
  simp (disch := omega) only [i, sh, sh2, ex]
  refine lives_pure.to ?_
  have RV2 : Row h2 V strE (if k = 0 then namesS s else []) := RV.fr fun b hb => f2.eq b (ltV b hb) id
  have hl : (if k = 0 then namesS s else []).length < 4096 := by
    split
    · rename_i h; have := (hk.1 h).2.2.2.2.2; omega
    · simp
  simp (disch := omega) only [i, sh, sh2]
  refine (same14 RV2 RW hl).mono ?_
  rintro _ _ ⟨rfl, rfl⟩
  have e := eql23 k
  simp only [i] at e
  simp (disch := omega) only [i, sh, sh2, e]
end
end Go.Proofs.YthinkofjbabfbaaDoor
