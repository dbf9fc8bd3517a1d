/-
  ptab over a memory's bytes: words, leaves, entries.
-/
import Derived.Test.YtfbagndfifibiaaSaQ
import Derived.Test.YtfbagndfifibiaaSxB
import Derived.Test.YtfbagndfifibiaaLm7x
import Derived.Test.YtfbagndfifibiaaSxC
set_option linter.all false
namespace Go.Proofs.Ytfbagndfifibiaa
open Go.ChangeShapes Go.WideShapes Go.ChangeAt Go.RowKit Go.Lm
set_option linter.unusedSimpArgs false
set_option linter.unusedVariables false
set_option maxRecDepth 10000
/-! ### Words -/
def orI (x y : Int) : Int := IntKind.u32.wrap ((BitVec.ofInt 32 x ||| BitVec.ofInt 32 y).toNat : Int)
def shlI (x : Int) (n : Nat) : Int := IntKind.u32.wrap (x * 2 ^ n)
def u32I (x : Int) : Int := IntKind.u32.wrap x
def wordI (a b c d : Int) : Int := orI (orI (orI (u32I a) (shlI (u32I b) 8)) (shlI (u32I c) 16)) (shlI (u32I d) 24)
theorem or_u32 (x y : Int) : binL Try.prog .or 53 false (.int .u32 x) (.int .u32 y) = some (.int .u32 (orI x y)) := nr (by kernel_rfl)
theorem shl8_u32 (x : Int) : binL Try.prog .shl 53 true (.int .u32 x) (.int .u64 8) = some (.int .u32 (shlI x 8)) := nr (by kernel_rfl)
theorem shl16_u32 (x : Int) : binL Try.prog .shl 53 true (.int .u32 x) (.int .u64 16) = some (.int .u32 (shlI x 16)) := nr (by kernel_rfl)
theorem shl24_u32 (x : Int) : binL Try.prog .shl 53 true (.int .u32 x) (.int .u64 24) = some (.int .u32 (shlI x 24)) := nr (by kernel_rfl)
theorem cvl_u32 (x : Int) (g : LHeap) : convLightL Try.prog 5 53 (.int .u8 x) g = some (.int .u32 (u32I x)) := nr (by kernel_rfl)
theorem wrap_u32 (x : Int) : 0 ≤ IntKind.u32.wrap x ∧ IntKind.u32.wrap x < 4294967296 := by
  unfold IntKind.wrap
  simp [IntKind.signed, IntKind.bits]
  omega
theorem wordI_range (a b c d : Int) : 0 ≤ wordI a b c d ∧ wordI a b c d < 4294967296 := wrap_u32 _
def wordAt (bs : List Int) (x : Nat) : Int := wordI (bs.getD x 0) (bs.getD (x + 1) 0) (bs.getD (x + 2) 0) (bs.getD (x + 3) 0)
theorem wordAt_range (bs : List Int) (x : Nat) : 0 ≤ wordAt bs x ∧ wordAt bs x < 4294967296 := wordI_range _ _ _ _
def frameI (w : Int) : Int := w / 256
def flagsI (w : Int) : Int := IntKind.u32.wrap ((BitVec.ofInt 32 w &&& BitVec.ofInt 32 255).toNat : Int)
def packI (f l : Int) : Int := orI (shlI (u32I f) 8) (u32I l)
section
variable {g h : LHeap} {m a : Nat} {bs : List Int}
theorem by_cell (M : MemAt h m a bs) {k : Nat} (hk : k < bs.length) : cellO none k (h.get a) = some (.int .u8 (bs.getD k 0)) := by
  rw [M.b]
  show (bs.map B8)[k]? = _
  rw [List.getElem?_map, List.getElem?_eq_getElem hk, List.getD_eq_getElem?_getD, List.getElem?_eq_getElem hk]
  rfl
theorem Load32_ok (M : MemAt h m a bs) (x : Int) (hx : 0 ≤ x) : Ok Try.prog 63 [.ptr m 0, i x] h fun v h' => h' = h ∧ v = (if x % 4 = 0 ∧ spanIn bs x 4 then .tuple [.int .u32 (wordAt bs x.toNat), i 0] else .tuple [.int .u32 0, i 10]) := by
  refine ok63 fun _ _ => ?_
  simp (disch := omega) only [F63, i]
  refine (word_ok M x hx).mono ?_
  rintro _ h ⟨rfl, rfl⟩
  have ex : ∀ a b, extractL (.tuple [a, b]) 0 = some a ∧ extractL (.tuple [a, b]) 1 = some b := fun _ _ => ⟨rfl, rfl⟩
  by_cases hc : x % 4 = 0 ∧ spanIn bs x 4
  · rw [if_pos hc, if_pos hc]
    have fit : x.toNat + 4 ≤ bs.length := by have := hc.2; unfold spanIn at this; omega
    have ix : ∀ k : Nat, k < 4 → ixAddrL none 1 (.slice a x.toNat 4 (.ex 4)) (.int .i64 (k : Int)) = some (.ptr a (x.toNat + k)) := fun k hk => by rw [ix_nat _ _ (by omega), Nat.mul_one]
    have i0 := ix 0 (by omega)
    have i1 := ix 1 (by omega)
    have i2 := ix 2 (by omega)
    have i3 := ix 3 (by omega)
    have b0 := by_cell M (k := x.toNat + 0) (by omega)
    have b1 := by_cell M (k := x.toNat + 1) (by omega)
    have b2 := by_cell M (k := x.toNat + 2) (by omega)
    have b3 := by_cell M (k := x.toNat + 3) (by omega)
    have n0 : ((0 : Nat) : Int) = 0 := rfl
    have n1 : ((1 : Nat) : Int) = 1 := rfl
    have n2 : ((2 : Nat) : Int) = 2 := rfl
    have n3 : ((3 : Nat) : Int) = 3 := rfl
    rw [n0, Nat.add_zero] at i0
    rw [Nat.add_zero] at b0
    rw [n1] at i1
    rw [n2] at i2
    rw [n3] at i3
    simp (disch := omega) only [i, sh, sh2, shi, dec, ex, i0, i1, i2, i3, b0, b1, b2, b3, cvl_u32, shl8_u32, shl16_u32, shl24_u32, or_u32]
    exact ⟨trivial, rfl⟩
  · rw [if_neg hc, if_neg hc]
    simp (disch := omega) only [i, sh, sh2, shi, dec, ex]
    exact ⟨trivial, trivial⟩
theorem frame31 {w : Int} (h1 : 0 ≤ w ∧ w < 4294967296) : Ok Try.prog 31 [.int .u32 w] h fun v h' => v = i (frameI w) ∧ h' = h := by
  refine ok31 fun _ _ => ?_
  have e1 : binL Try.prog .shr 53 true (.int .u32 w) (.int .u64 8) = some (.int .u32 (w.fdiv (2 ^ 8))) := nr (by kernel_rfl)
  have e2 : ∀ y g, convL Try.prog 53 3 (.int .u32 y) g = some (.int .i64 (IntKind.i64.wrap y), g) := fun y g => nr (by kernel_rfl)
  have e3 : w.fdiv (2 ^ 8) = w / 256 := by
    rw [Int.fdiv_eq_ediv_of_nonneg _ (by decide)]
    rfl
  have e4 : IntKind.i64.wrap (w / 256) = w / 256 := by
    unfold IntKind.wrap
    simp [IntKind.signed, IntKind.bits]
    omega
  simp (disch := omega) only [F31, i, sh, sh2, e1, e2, e3, e4]
  exact ⟨rfl, trivial⟩
theorem flags30 {w : Int} : Ok Try.prog 30 [.int .u32 w] h fun v h' => v = i (flagsI w) ∧ h' = h := by
  refine ok30 fun _ _ => ?_
  have e1 : binL Try.prog .and 53 true (.int .u32 w) (.int .u32 255) = some (.int .u32 (flagsI w)) := nr (by kernel_rfl)
  have e2 : ∀ y g, convL Try.prog 53 3 (.int .u32 y) g = some (.int .i64 (IntKind.i64.wrap y), g) := fun y g => nr (by kernel_rfl)
  have r := wrap_u32 ((BitVec.ofInt 32 w &&& BitVec.ofInt 32 255).toNat : Int)
  have e4 : IntKind.i64.wrap (flagsI w) = flagsI w := by
    unfold flagsI
    generalize IntKind.u32.wrap ((BitVec.ofInt 32 w &&& BitVec.ofInt 32 255).toNat : Int) = z at *
    unfold IntKind.wrap
    simp [IntKind.signed, IntKind.bits]
    omega
  simp (disch := omega) only [F30, i, sh, sh2, e1, e2, e4]
  exact ⟨trivial, trivial⟩
theorem pack51 (f l : Int) : Ok Try.prog 51 [i f, i l] h fun v h' => v = .int .u32 (packI f l) ∧ h' = h := by
  refine ok51 fun _ _ => ?_
  have e2 : ∀ y g, convL Try.prog 3 53 (.int .i64 y) g = some (.int .u32 (u32I y), g) := fun y g => nr (by kernel_rfl)
  simp (disch := omega) only [F51, i, sh, sh2, e2, shl8_u32, or_u32]
  exact ⟨rfl, trivial⟩
theorem at64 {f p : Int} (h1 : 0 ≤ f ∧ f < 16777216) (h2 : 0 ≤ p ∧ p < 4096) : Ok Try.prog 64 [i f, i p] h fun v h' => v = i (f * 256 + 4 * (p % 64)) ∧ h' = h := by
  refine ok64 fun _ _ => ?_
  have e1 : binL Try.prog .and 3 true (.int .i64 p) (.int .i64 63) = some (.int .i64 (p % 64)) := by
    obtain ⟨n, rfl⟩ : ∃ n : Nat, p = n := ⟨p.toNat, by omega⟩
    have e : binL Try.prog .and 3 true (.int .i64 (n : Int)) (.int .i64 63) = some (.int .i64 (IntKind.i64.wrap ((BitVec.ofInt 64 (n : Int) &&& BitVec.ofInt 64 63).toNat : Int))) := nr (by kernel_rfl)
    rw [e]
    have e3 : (BitVec.ofInt 64 (n : Int) &&& BitVec.ofInt 64 63).toNat = n % 64 := by
      have a1 : BitVec.ofInt 64 (n : Int) = BitVec.ofNat 64 n := BitVec.ofInt_natCast 64 n
      have a2 : BitVec.ofInt 64 63 = BitVec.ofNat 64 63 := rfl
      rw [a1, a2, BitVec.toNat_and, BitVec.toNat_ofNat, BitVec.toNat_ofNat]
      have : (63 : Nat) % 2 ^ 64 = 2 ^ 6 - 1 := by decide
      rw [this, Nat.and_two_pow_sub_one_eq_mod]
      omega
    rw [e3]
    congr 2
    unfold IntKind.wrap
    simp [IntKind.signed, IntKind.bits]
    omega
  simp (disch := omega) only [F64, i, sh, sh2, shi, dec, e1]
  exact ⟨trivial, trivial⟩
end
end Go.Proofs.Ytfbagndfifibiaa

namespace Go.Proofs.Ytfbagndfifibiaa
open Go.ChangeShapes Go.WideShapes Go.ChangeAt Go.RowKit Go.Lm
set_option linter.unusedSimpArgs false
set_option linter.unusedVariables false
set_option maxRecDepth 10000
def rootAt (root p : Int) : Int := root * 256 + 4 * (p / 64)
def leafP (bs : List Int) (root p : Int) : Option Int :=
  if flagsI (wordAt bs (rootAt root p).toNat) = 1 ∧ frameI (wordAt bs (rootAt root p).toNat) < ((bs.length / 256 : Nat) : Int) then some (frameI (wordAt bs (rootAt root p).toNat)) else none
def entAt (f p : Int) : Int := f * 256 + 4 * (p % 64)
def walkP (bs : List Int) (root p : Int) : Int := match leafP bs root p with
  | some f => wordAt bs (entAt f p).toNat
  | none => 0
def mayP (bs : List Int) (e : Int) : Prop := if flagsI e = 1 ∨ flagsI e = 3 ∨ flagsI e = 5 then frameI e < ((bs.length / 256 : Nat) : Int) else e = 0
section
variable {g h : LHeap} {m a t : Nat} {bs : List Int} {root p : Int}
theorem leafP_frame {f : Int} (hl : leafP bs root p = some f) : frameIn bs f := by
  unfold leafP at hl
  split at hl
  · rename_i hc
    cases hl
    have := wordAt_range bs (rootAt root p).toNat
    exact ⟨by unfold frameI; omega, hc.2⟩
  · cases hl
theorem ex2 (a b : LV) : extractL (.tuple [a, b]) 0 = some a ∧ extractL (.tuple [a, b]) 1 = some b := ⟨rfl, rfl⟩
theorem shr6 {p : Int} (h : 0 ≤ p ∧ p < 4096) : binL Try.prog .shr 3 true (.int .i64 p) (.int .u64 6) = some (.int .i64 (p / 64)) := by
  have e : binL Try.prog .shr 3 true (.int .i64 p) (.int .u64 6) = some (.int .i64 (p.fdiv (2 ^ 6))) := nr (by kernel_rfl)
  rw [e, Int.fdiv_eq_ediv_of_nonneg _ (by decide)]
  rfl
theorem leaf_ok (M : MemAt h m a bs) (hr : frameIn bs root) (hp : 0 ≤ p ∧ p < 256) : Ok Try.prog 62 [.ptr m 0, i root, i p] h fun v h' => v = (match leafP bs root p with | some f => .tuple [i f, .bool true] | none => .tuple [i 0, .bool false]) ∧ h' = h := by
  refine ok62 fun _ _ => ?_
  have le := M.le
  have hr' := hr
  unfold frameIn at hr'
  have sp : spanIn bs (rootAt root p) 4 := by unfold spanIn rootAt; omega
  have al : rootAt root p % 4 = 0 := by unfold rootAt; omega
  have s6 := shr6 (p := p) (by omega)
  have ea : root * 256 + 4 * (p / 64) = rootAt root p := rfl
  have L := Load32_ok M (rootAt root p) (by unfold rootAt; omega)
  rw [if_pos ⟨al, sp⟩] at L
  have hw := wordAt_range bs (rootAt root p).toNat
  simp (disch := omega) only [F62, i, sh, sh2, shi, dec, s6, ea]
  simp only [i] at L
  refine L.mono ?_
  rintro _ _ ⟨rfl, rfl⟩
  unfold leafP
  generalize wordAt bs (rootAt root p).toNat = w at *
  simp (disch := omega) only [i, sh, sh2, shi, dec, ex2]
  refine flags30.mono ?_
  rintro _ _ ⟨rfl, rfl⟩
  by_cases hf : flagsI w = 1
  · simp (disch := omega) only [i, sh, sh2, shi, dec]
    refine (frame31 hw).mono ?_
    rintro _ _ ⟨rfl, rfl⟩
    simp (disch := omega) only [i, sh, sh2, shi, dec]
    refine (Frames_ok M).mono ?_
    rintro _ h ⟨rfl, rfl⟩
    by_cases hn : frameI w < ((bs.length / 256 : Nat) : Int)
    · rw [if_pos ⟨hf, hn⟩]
      simp (disch := omega) only [i, sh, sh2, shi, dec]
      refine (frame31 hw).mono ?_
      rintro _ _ ⟨rfl, rfl⟩
      exact ⟨rfl, rfl⟩
    · rw [if_neg fun h => hn h.2]
      simp (disch := omega) only [i, sh, sh2, shi, dec]
      exact ⟨trivial, trivial⟩
  · rw [if_neg fun h => hf h.1]
    simp (disch := omega) only [i, sh, sh2, shi, dec]
    exact ⟨trivial, trivial⟩
theorem page45 (hp : 0 ≤ p ∧ p < 256) : Ok Try.prog 45 [i p] h fun v h' => v = .bool true ∧ h' = h := by
  refine ok45 fun _ _ => ?_
  simp (disch := omega) only [F45, i, sh, sh2, shi, dec]
  exact ⟨trivial, trivial⟩
theorem walk46 (M : MemAt h m a bs) (hr : frameIn bs root) (hp : 0 ≤ p ∧ p < 256) : Ok Try.prog 46 [.ptr m 0, i root, i p] h fun v h' => v = .int .u32 (walkP bs root p) ∧ h' = h := by
  refine ok46 fun _ _ => ?_
  have np := (nil_p (P := Try.prog) ph_tp true).1
  have le := M.le
  have hr' := hr
  unfold frameIn at hr'
  simp (disch := omega) only [F46, i, sh, sh2, shi, dec, np]
  refine (Frames_ok M).mono ?_
  rintro _ h ⟨rfl, rfl⟩
  simp (disch := omega) only [i, sh, sh2, shi, dec]
  refine (page45 hp).mono ?_
  rintro _ h ⟨rfl, rfl⟩
  simp (disch := omega) only [i, sh, sh2, shi, dec]
  refine (leaf_ok M hr hp).mono ?_
  rintro v h ⟨hv, rfl⟩
  unfold walkP
  cases hl : leafP bs root p with
  | none =>
    rw [hl] at hv
    subst hv
    simp (disch := omega) only [i, sh, sh2, shi, dec, ex2]
    exact ⟨trivial, trivial⟩
  | some f =>
    rw [hl] at hv
    subst hv
    have hf := leafP_frame hl
    have hf' := hf
    unfold frameIn at hf'
    simp (disch := omega) only [i, sh, sh2, shi, dec, ex2]
    refine (at64 (f := f) (p := p) (by omega) (by omega)).mono ?_
    rintro _ h ⟨rfl, rfl⟩
    have sp : spanIn bs (entAt f p) 4 := by unfold spanIn entAt; omega
    have al : entAt f p % 4 = 0 := by unfold entAt; omega
    have L := Load32_ok M (entAt f p) (by unfold entAt; omega)
    rw [if_pos ⟨al, sp⟩] at L
    refine L.mono ?_
    rintro _ h ⟨rfl, rfl⟩
    simp (disch := omega) only [i, sh, sh2, shi, dec, ex2]
    exact ⟨trivial, trivial⟩
theorem ty61 : Try.prog.underlying 61 = some (.pointer 99) := by kernel_rfl
theorem made44 (x : h.get t = some (.cells [.ptr m 0, i root] .ex)) : Ok Try.prog 44 [.ptr t 0] h fun v h' => v = .bool true ∧ h' = h := by
  refine ok44 fun _ _ => ?_
  have np := nil_p (P := Try.prog) ph_tp true
  have nt := nil_p (P := Try.prog) ty61 true
  simp (disch := omega) only [F44, i, sh, sh2, shc, shi, dec, np, nt, x]
theorem get28 (x : h.get t = some (.cells [.ptr m 0, i root] .ex)) (M : MemAt h m a bs) (hr : frameIn bs root) (hp : 0 ≤ p ∧ p < 256) : Ok Try.prog 28 [.ptr t 0, i p] h fun v h' => v = .tuple [.int .u32 (walkP bs root p), i 0] ∧ h' = h := by
  refine ok28 fun _ _ => ?_
  simp only [F28]
  refine (made44 x).mono ?_
  rintro _ h ⟨rfl, rfl⟩
  simp (disch := omega) only [i, sh, sh2]
  refine (page45 hp).mono ?_
  rintro _ h ⟨rfl, rfl⟩
  simp (disch := omega) only [i, sh, sh2, shc, x]
  refine (walk46 M hr hp).mono ?_
  rintro _ h ⟨rfl, rfl⟩
  exact ⟨rfl, rfl⟩
theorem needs48 (x : h.get t = some (.cells [.ptr m 0, i root] .ex)) (M : MemAt h m a bs) (hr : frameIn bs root) (hp : 0 ≤ p ∧ p < 256) : Ok Try.prog 48 [.ptr t 0, i p] h fun v h' => v = .bool (leafP bs root p).isNone ∧ h' = h := by
  refine ok48 fun _ _ => ?_
  simp only [F48]
  refine (made44 x).mono ?_
  rintro _ h ⟨rfl, rfl⟩
  simp (disch := omega) only [i, sh, sh2]
  refine (page45 hp).mono ?_
  rintro _ h ⟨rfl, rfl⟩
  simp (disch := omega) only [i, sh, sh2, shc, x]
  refine (leaf_ok M hr hp).mono ?_
  rintro v h ⟨rfl, rfl⟩
  cases leafP bs root p with
  | none => simp (disch := omega) only [i, sh, sh2, shi, dec, ex2]; exact ⟨rfl, trivial⟩
  | some f => simp (disch := omega) only [i, sh, sh2, shi, dec, ex2]; exact ⟨rfl, trivial⟩
theorem may66 (x : h.get t = some (.cells [.ptr m 0, i root] .ex)) (M : MemAt h m a bs) {e : Int} (he : 0 ≤ e ∧ e < 4294967296) (hm : mayP bs e) : Ok Try.prog 66 [.ptr t 0, .int .u32 e] h fun v h' => v = .bool true ∧ h' = h := by
  refine ok66 fun _ _ => ?_
  simp only [F66, J66_0]
  refine flags30.mono ?_
  rintro _ h ⟨rfl, rfl⟩
  unfold mayP at hm
  have tail : frameI e < ((bs.length / 256 : Nat) : Int) → J66_3 (.ptr t 0) (.int .u32 e) (.bool true) h fun v h' => v = .bool true ∧ h' = h := by
    intro hf
    simp (disch := omega) only [J66_3, i, sh, sh2, shc, x]
    refine (frame31 he).mono ?_
    rintro _ h ⟨rfl, rfl⟩
    simp (disch := omega) only [i, sh, sh2, shc, x]
    refine (Frames_ok M).mono ?_
    rintro _ h ⟨rfl, rfl⟩
    simp (disch := omega) only [i, sh, sh2, shi, dec]
    exact ⟨trivial, trivial⟩
  by_cases h1 : flagsI e = 1
  · rw [if_pos (.inl h1)] at hm
    simp (disch := omega) only [J66_2, i, sh, sh2, shi, dec, h1]
    exact tail hm
  by_cases h3 : flagsI e = 3
  · rw [if_pos (.inr (.inl h3))] at hm
    simp (disch := omega) only [J66_2, i, sh, sh2, shi, dec, h3]
    exact tail hm
  by_cases h5 : flagsI e = 5
  · rw [if_pos (.inr (.inr h5))] at hm
    simp (disch := omega) only [J66_2, i, sh, sh2, shi, dec, h5]
    exact tail hm
  · rw [if_neg (by simp [h1, h3, h5])] at hm
    subst hm
    have e0 : binL Try.prog .eql 53 true (.int .u32 0) (.int .u32 0) = some (.bool true) := nr (by kernel_rfl)
    simp (disch := omega) only [J66_2, J66_3, J66_1, i, sh, sh2, shi, dec, e0]
    exact ⟨trivial, trivial⟩
end
end Go.Proofs.Ytfbagndfifibiaa

namespace Go.Proofs.Ytfbagndfifibiaa
open Go.ChangeShapes Go.WideShapes Go.ChangeAt Go.RowKit Go.Lm
set_option linter.unusedSimpArgs false
set_option linter.unusedVariables false
set_option maxRecDepth 10000
def is32 (w : Int) : Prop := 0 ≤ w ∧ w < 4294967296
def isB (b : Int) : Prop := 0 ≤ b ∧ b < 256
theorem wrap32 {x : Int} (h : is32 x) : IntKind.u32.wrap x = x := by
  unfold is32 at h
  unfold IntKind.wrap
  simp [IntKind.signed, IntKind.bits]
  omega
theorem wrap8 (x : Int) : IntKind.u8.wrap x = x % 256 := by
  unfold IntKind.wrap
  simp [IntKind.signed, IntKind.bits]
theorem wrap_is (x : Int) : is32 (IntKind.u32.wrap x) := wrap_u32 x
/-- Of bits that are apart, 'or' is the sum. -/
theorem orI_add {a b : Int} {k : Nat} (ha : 0 ≤ a ∧ a < (2 ^ k : Nat)) (hb : 0 ≤ b) (hs : a + b * (2 ^ k : Nat) < 4294967296) (h32 : k < 32) : orI a (b * (2 ^ k : Nat)) = a + b * (2 ^ k : Nat) := by
  obtain ⟨n, rfl⟩ : ∃ n : Nat, a = n := ⟨a.toNat, by omega⟩
  obtain ⟨c, rfl⟩ : ∃ c : Nat, b = c := ⟨b.toNat, by omega⟩
  have e0 : (c : Int) * ((2 ^ k : Nat) : Int) = ((c * 2 ^ k : Nat) : Int) := by push_cast; rfl
  rw [e0] at hs ⊢
  have hn : n < 2 ^ k := by omega
  have hsum : n + c * 2 ^ k < 4294967296 := by omega
  unfold orI
  have a1 : BitVec.ofInt 32 (n : Int) = BitVec.ofNat 32 n := BitVec.ofInt_natCast 32 n
  have a2 : BitVec.ofInt 32 ((c * 2 ^ k : Nat) : Int) = BitVec.ofNat 32 (c * 2 ^ k) := BitVec.ofInt_natCast 32 _
  rw [a1, a2, BitVec.toNat_or, BitVec.toNat_ofNat, BitVec.toNat_ofNat, Nat.mod_eq_of_lt (by omega), Nat.mod_eq_of_lt (by omega)]
  have e1 : n ||| c * 2 ^ k = n + c * 2 ^ k := by
    rw [Nat.or_comm, Nat.mul_comm c, ← Nat.two_pow_add_eq_or_of_lt hn]
    omega
  rw [e1, wrap32 ⟨by omega, by omega⟩]
  push_cast; rfl
theorem shlI_eq {b : Int} {k : Nat} (hb : 0 ≤ b) (h : b * 2 ^ k < 4294967296) : shlI b k = b * 2 ^ k := by
  unfold shlI
  refine wrap32 ⟨Int.mul_nonneg hb (by exact Int.le_of_lt (Int.pow_pos (by decide))), h⟩
theorem wordI_eq {a b c d : Int} (ha : isB a) (hb : isB b) (hc : isB c) (hd : isB d) : wordI a b c d = a + b * 256 + c * 65536 + d * 16777216 := by
  unfold isB at *
  unfold wordI u32I
  rw [wrap32 ⟨by omega, by omega⟩, wrap32 ⟨by omega, by omega⟩, wrap32 ⟨by omega, by omega⟩, wrap32 ⟨by omega, by omega⟩]
  rw [shlI_eq (k := 8) (by omega) (by omega), shlI_eq (k := 16) (by omega) (by omega), shlI_eq (k := 24) (by omega) (by omega)]
  have e1 := orI_add (a := a) (b := b) (k := 8) ⟨by omega, by omega⟩ (by omega) (by omega) (by omega)
  have e2 := orI_add (a := a + b * 256) (b := c) (k := 16) ⟨by omega, by omega⟩ (by omega) (by omega) (by omega)
  have e3 := orI_add (a := a + b * 256 + c * 65536) (b := d) (k := 24) ⟨by omega, by omega⟩ (by omega) (by omega) (by omega)
  have p8 : (2 : Int) ^ 8 = 256 := rfl
  have p16 : (2 : Int) ^ 16 = 65536 := rfl
  have p24 : (2 : Int) ^ 24 = 16777216 := rfl
  have q8 : ((2 ^ 8 : Nat) : Int) = 256 := rfl
  have q16 : ((2 ^ 16 : Nat) : Int) = 65536 := rfl
  have q24 : ((2 ^ 24 : Nat) : Int) = 16777216 := rfl
  rw [q8] at e1
  rw [q16] at e2
  rw [q24] at e3
  rw [p8, p16, p24, e1, e2, e3]
theorem byteN_is (w : Int) (k : Nat) : isB (byteN w k) := by
  unfold byteN isB
  rw [wrap8]; omega
theorem word_bytes {w : Int} (h : is32 w) : wordI (byteN w 0) (byteN w 1) (byteN w 2) (byteN w 3) = w := by
  rw [wordI_eq (byteN_is _ _) (byteN_is _ _) (byteN_is _ _) (byteN_is _ _)]
  unfold byteN is32 at *
  simp only [wrap8]
  rw [Int.fdiv_eq_ediv_of_nonneg _ (by decide), Int.fdiv_eq_ediv_of_nonneg _ (by decide), Int.fdiv_eq_ediv_of_nonneg _ (by decide), Int.fdiv_eq_ediv_of_nonneg _ (by decide)]
  have p0 : (2 : Int) ^ (8 * 0) = 1 := rfl
  have p8 : (2 : Int) ^ (8 * 1) = 256 := rfl
  have p16 : (2 : Int) ^ (8 * 2) = 65536 := rfl
  have p24 : (2 : Int) ^ (8 * 3) = 16777216 := rfl
  rw [p0, p8, p16, p24]
  omega
theorem getD_putB {bs new : List Int} {off : Nat} (fit : off + new.length ≤ bs.length) (k : Nat) : (putB bs off new).getD k 0 = if off ≤ k ∧ k < off + new.length then new.getD (k - off) 0 else bs.getD k 0 := by
  rw [List.getD_eq_getElem?_getD, putB_get fit]
  split <;> rw [List.getD_eq_getElem?_getD]
theorem wordAt_put {bs : List Int} {x : Nat} {w : Int} (h : is32 w) (fit : x + 4 ≤ bs.length) : wordAt (putB bs x (wordB w 4)) x = w := by
  have hl := wordB_len w 4
  unfold wordAt
  rw [getD_putB (by rw [hl]; exact fit), getD_putB (by rw [hl]; exact fit), getD_putB (by rw [hl]; exact fit), getD_putB (by rw [hl]; exact fit), hl]
  rw [if_pos ⟨by omega, by omega⟩, if_pos ⟨by omega, by omega⟩, if_pos ⟨by omega, by omega⟩, if_pos ⟨by omega, by omega⟩]
  have e0 : x - x = 0 := by omega
  have e1 : x + 1 - x = 1 := by omega
  have e2 : x + 2 - x = 2 := by omega
  have e3 : x + 3 - x = 3 := by omega
  rw [e0, e1, e2, e3]
  exact word_bytes h
theorem wordAt_other {bs new : List Int} {x y : Nat} (fit : x + new.length ≤ bs.length) (h : y + 4 ≤ x ∨ x + new.length ≤ y) : wordAt (putB bs x new) y = wordAt bs y := by
  unfold wordAt
  rw [getD_putB fit, getD_putB fit, getD_putB fit, getD_putB fit, if_neg (by omega), if_neg (by omega), if_neg (by omega), if_neg (by omega)]
theorem orI_comm (a b : Int) : orI a b = orI b a := by unfold orI; rw [BitVec.or_comm]
theorem packI_eq {f l : Int} (hf : 0 ≤ f ∧ f < 16777216) (hl : isB l) : packI f l = f * 256 + l := by
  unfold isB at hl
  unfold packI u32I
  rw [wrap32 ⟨by omega, by omega⟩, wrap32 ⟨by omega, by omega⟩, shlI_eq (k := 8) (by omega) (by omega)]
  have e1 := orI_add (a := l) (b := f) (k := 8) ⟨by omega, by omega⟩ (by omega) (by omega) (by omega)
  have p8 : (2 : Int) ^ 8 = 256 := rfl
  have q8 : ((2 ^ 8 : Nat) : Int) = 256 := rfl
  rw [q8] at e1
  rw [p8, orI_comm, e1]
  omega
theorem flagsI_eq {w : Int} (h : is32 w) : flagsI w = w % 256 := by
  obtain ⟨n, rfl⟩ : ∃ n : Nat, w = n := ⟨w.toNat, by unfold is32 at h; omega⟩
  unfold is32 at h
  unfold flagsI
  have a1 : BitVec.ofInt 32 (n : Int) = BitVec.ofNat 32 n := BitVec.ofInt_natCast 32 n
  have a2 : BitVec.ofInt 32 255 = BitVec.ofNat 32 255 := rfl
  rw [a1, a2, BitVec.toNat_and, BitVec.toNat_ofNat, BitVec.toNat_ofNat]
  have : (255 : Nat) % 2 ^ 32 = 2 ^ 8 - 1 := by decide
  rw [this, Nat.and_two_pow_sub_one_eq_mod, wrap32 ⟨by omega, by omega⟩]
  omega
end Go.Proofs.Ytfbagndfifibiaa

namespace Go.Proofs.Ytfbagndfifibiaa
open Go.ChangeShapes Go.WideShapes Go.ChangeAt Go.RowKit Go.Lm
set_option linter.unusedSimpArgs false
set_option linter.unusedVariables false
set_option maxRecDepth 10000
section
variable {F : Nat → Prop} {g h h' : LHeap} {x m a t : Nat} {bs bs' : List Int} {root p : Int} {Zs Ts : List Thing} {st : FSt} {S : Nat → Prop}
theorem unbox {α : Type} {D : α → List Thing → Prop} {z : α} (Sp : Sep F g h (Thing.box D S z :: Zs)) : ∃ Ts, D z Ts ∧ Sep F g h (Ts ++ Zs) := by
  obtain ⟨Ts, hD, S'⟩ := box_open (Sp.at 0 rfl) (Sp.boxlt (i := 0) rfl)
  exact ⟨Ts, hD, Sp.callF rfl S'⟩
theorem rebox {α : Type} {D : α → List Thing → Prop} {z : α} {Us : List Thing} (Sp : Sep F g h (Us ++ Zs)) (hD : D z Us) : ∃ S', Sep F g h (Thing.box D S' z :: Zs) := by
  obtain ⟨S', S1⟩ := (Sp.perm List.perm_append_comm).boxed hD
  exact ⟨S', S1.perm List.perm_append_comm⟩
/-- A memory and a table. -/
def PTs (m a t : Nat) (root : Int) (bs : List Int) : List Thing := [Thing.cells a (bs.map B8), Thing.cells m [.slice a 0 bs.length (.ex bs.length)], Thing.cells t [.ptr m 0, i root]]
structure bsOk (bs : List Int) : Prop where
  le : bs.length ≤ 1048576
  pos : 256 ≤ bs.length
  mul : bs.length % 256 = 0
theorem FWf.bsOk (w : FWf st) : bsOk st.bs := ⟨w.b1, w.b2, w.b3⟩
theorem bsOk.of {bs bs' : List Int} (b : bsOk bs) (h : bs'.length = bs.length) : bsOk bs' := ⟨by rw [h]; exact b.le, by rw [h]; exact b.pos, by rw [h]; exact b.mul⟩
theorem pt_m (Sp : Sep F g h (PTs m a t root bs)) (b : bsOk bs) : MemAt h m a bs := ⟨Sp.cell 1 rfl, Sp.cell 0 rfl, b.le, b.pos, b.mul⟩
theorem pt_t (Sp : Sep F g h (PTs m a t root bs)) : h.get t = some (.cells [.ptr m 0, i root] .ex) := Sp.cell 2 rfl
theorem pt_put (Sp : Sep F g h (PTs m a t root bs)) (T : MemTo h h' a bs') (hl : bs'.length = bs.length) : Sep F g h' (PTs m a t root bs') := by
  have S' := Sp.put 0 rfl (Thing.cells a (bs'.map B8)) T.fr T.at_ fun b hb => ⟨.inl hb, Nat.lt_of_lt_of_le (Sp.lt 0 rfl hb) T.fr.le⟩
  have e : (PTs m a t root bs).set 0 (Thing.cells a (bs'.map B8)) = PTs m a t root bs' := by unfold PTs; rw [hl]; rfl
  rw [← e]; exact S'
theorem pt_perm {A : Type} (x v c m a t : A) (R Zs : List A) : ([x, v, c, m, a] ++ R ++ t :: Zs).Perm ([a, m, t] ++ ([x, v, c] ++ R ++ Zs)) := by
  refine (List.perm_middle (l₁ := [x, v, c, m, a] ++ R) (a := t) (l₂ := Zs)).trans ?_
  refine (List.perm_middle (l₁ := [t, x, v, c, m]) (a := a) (l₂ := R ++ Zs)).trans ?_
  refine .cons _ ?_
  exact List.perm_middle (l₁ := [t, x, v, c]) (a := m) (l₂ := R ++ Zs)
/-- What is done to a memory and a table, done beside others. -/
theorem mem_call {f : FuncId} {args : List LV} {V : LV → Prop} (Sp : Sep F g h (FBox x m S st :: Thing.cells t [.ptr m 0, i root] :: Zs)) (hl : bs'.length = st.bs.length) (w' : FWf st → FWf { st with bs := bs' })
    (op : ∀ a (F' : Nat → Prop), Sep F' h h (PTs m a t root st.bs) → bsOk st.bs → Ok Try.prog f args h fun v h' => V v ∧ Sep F' h h' (PTs m a t root bs')) :
    Ok Try.prog f args h fun v h' => V v ∧ ∃ S', Sep F g h' (FBox x m S' { st with bs := bs' } :: Thing.cells t [.ptr m 0, i root] :: Zs) := by
  obtain ⟨Ts, ⟨a, CV, CC, rs, rfl, hl1, w⟩, S1⟩ := unbox Sp
  let R : List Thing := [Thing.cells x (frC m st.first st.harts CV (rs.map (·.V)) CC), Thing.vec intE CV st.counts, Thing.vec intE CC st.common] ++ rs.map FX.T ++ Zs
  have p1 : (FrG x m a (frC m st.first st.harts CV (rs.map (·.V)) CC) CV st.counts CC st.common st.bs rs ++ Thing.cells t [.ptr m 0, i root] :: Zs).Perm (PTs m a t root st.bs ++ R) := pt_perm _ _ _ _ _ _ _ _
  have S2 := S1.perm p1
  refine (op a _ S2.self w.bsOk).mono ?_
  rintro v h' ⟨hv, S3⟩
  refine ⟨hv, ?_⟩
  have S4 := S2.frame S3
  have p2 : (PTs m a t root bs' ++ R).Perm (FrG x m a (frC m st.first st.harts CV (rs.map (·.V)) CC) CV st.counts CC st.common bs' rs ++ Thing.cells t [.ptr m 0, i root] :: Zs) := by
    have e := pt_perm (Thing.cells x (frC m st.first st.harts CV (rs.map (·.V)) CC)) (Thing.vec intE CV st.counts) (Thing.vec intE CC st.common) (Thing.cells m [.slice a 0 bs'.length (.ex bs'.length)]) (Thing.cells a (bs'.map B8)) (Thing.cells t [.ptr m 0, i root]) (rs.map FX.T) Zs
    exact e.symm
  exact rebox (D := FD x m) (z := { st with bs := bs' }) (S4.perm p2) ⟨a, CV, CC, rs, rfl, hl1, w' w⟩
theorem tyF : Try.prog.underlying 29 = some (.pointer 69) := ph_tp
theorem bl99S (m : Nat) (root : Int) : buildL Try.prog 99 [(0, .ptr m 0), (1, .int .i64 root)] = some (.agg [.ptr m 0, i root]) := nr (by kernel_rfl)
def growP (bs : List Int) (root p spare : Int) : List Int := putB (zeroF bs spare) (rootAt root p).toNat (wordB (packI spare 1) 4)
def setE (bs : List Int) (f p e : Int) : List Int := putB bs (entAt f p).toNat (wordB e 4)
theorem root_fit {bs : List Int} (hr : frameIn bs root) (hp : 0 ≤ p ∧ p < 256) : 0 ≤ rootAt root p ∧ spanIn bs (rootAt root p) 4 ∧ rootAt root p % 4 = 0 ∧ (rootAt root p).toNat + 4 ≤ bs.length := by
  unfold frameIn at hr
  have : (rootAt root p).toNat + 4 ≤ bs.length := by unfold rootAt; omega
  refine ⟨?_, ?_, ?_, this⟩
  · unfold rootAt; omega
  · unfold spanIn rootAt at *; omega
  · unfold rootAt; omega
theorem ent_fit {bs : List Int} {f : Int} (hr : frameIn bs f) (hp : 0 ≤ p ∧ p < 256) : 0 ≤ entAt f p ∧ spanIn bs (entAt f p) 4 ∧ entAt f p % 4 = 0 ∧ (entAt f p).toNat + 4 ≤ bs.length := by
  unfold frameIn at hr
  have : (entAt f p).toNat + 4 ≤ bs.length := by unfold entAt; omega
  refine ⟨?_, ?_, ?_, this⟩
  · unfold entAt; omega
  · unfold spanIn entAt at *; omega
  · unfold entAt; omega
theorem setE_len {f e : Int} (hf : frameIn bs f) (hp : 0 ≤ p ∧ p < 256) : (setE bs f p e).length = bs.length := by
  unfold setE; exact putB_len (by rw [wordB_len]; exact (ent_fit hf hp).2.2.2)
theorem growP_len {spare : Int} (hr : frameIn bs root) (hp : 0 ≤ p ∧ p < 256) : (growP bs root p spare).length = bs.length := by
  unfold growP
  rw [putB_len, zeroF_len]
  rw [zeroF_len, wordB_len]; exact (root_fit hr hp).2.2.2
theorem Zero_to (M : MemAt h m a bs) (y : Int) (hy : frameIn bs y) : Ok Try.prog 22 [.ptr m 0, i y] h fun v h' => v = i 0 ∧ MemTo h h' a (zeroF bs y) := by
  refine (Zero_ok M y).mono ?_
  rintro v h' ⟨rfl, rfl⟩
  rw [if_pos hy, if_pos hy]
  exact ⟨rfl, (Fr.refl _ _).set' _ (.inr rfl), get_set_eq _ _ _⟩
theorem grow67 {spare : Int} (Sp : Sep F g h (PTs m a t root bs)) (b : bsOk bs) (hr : frameIn bs root) (hp : 0 ≤ p ∧ p < 256) (hs : frameIn bs spare) :
    Ok Try.prog 67 [.ptr t 0, i p, i spare] h fun v h' => v = i 0 ∧ Sep F g h' (PTs m a t root (growP bs root p spare)) := by
  refine ok67 fun _ _ => ?_
  have x0 := pt_t Sp
  have hs' := hs
  have hr' := hr
  have le := b.le
  unfold frameIn at hs' hr'
  simp (disch := omega) only [F67, i, sh, sh2, shc, shi, dec, x0]
  refine (Zero_to (pt_m Sp b) spare hs).mono ?_
  rintro _ h1 ⟨rfl, T1⟩
  have S1 := pt_put Sp T1 (zeroF_len _ _)
  have x1 := pt_t S1
  have s6 := shr6 (p := p) (by omega)
  have ea : root * 256 + 4 * (p / 64) = rootAt root p := rfl
  have fit := root_fit (bs := zeroF bs spare) (root := root) (p := p) (by unfold frameIn; rw [zeroF_len]; exact hr) hp
  simp (disch := omega) only [i, sh, sh2, shc, shi, dec, x1, s6, ea]
  refine (pack51 spare 1).mono ?_
  rintro _ h2 ⟨rfl, rfl⟩
  simp (disch := omega) only [i, sh, sh2, shc, shi, dec, x1]
  have St := Store32_ok (pt_m S1 (b.of (zeroF_len _ _))) (rootAt root p) fit.1 (packI spare 1)
  rw [if_pos ⟨fit.2.2.1, fit.2.1⟩, if_pos ⟨fit.2.2.1, fit.2.1⟩] at St
  refine St.mono ?_
  rintro _ h3 ⟨rfl, T3⟩
  exact ⟨rfl, pt_put S1 T3 (putB_len (by rw [wordB_len]; exact fit.2.2.2))⟩
/-- New, where the frame is. -/
theorem ptNew_ok {y : Int} (M : MemAt h m a bs) (hy : frameIn bs y) : Ok Try.prog 19 [.ptr m 0, i y] h fun v h' => ∃ h1, MemTo h h1 a (zeroF bs y) ∧ v = .tuple [.ptr h1.next 0, i 0] ∧ h' = h1.alloc (.cells [.ptr m 0, i y] .ex) := by
  refine ok19 fun _ _ => ?_
  have np := nil_p (P := Try.prog) ph_tp true
  simp (disch := omega) only [F19, i, sh, sh2, shc, shi, dec, np]
  refine (Zero_to M y hy).mono ?_
  rintro _ h1 ⟨rfl, T1⟩
  have b := bl99S m y
  simp only [i] at b
  simp (disch := omega) only [i, sh, sh2, shc, shi, dec, b]
  exact ⟨h1, T1, rfl, rfl⟩
end
end Go.Proofs.Ytfbagndfifibiaa

namespace Go.Proofs.Ytfbagndfifibiaa
open Go.ChangeShapes Go.WideShapes Go.ChangeAt Go.RowKit Go.Lm
set_option linter.unusedSimpArgs false
set_option linter.unusedVariables false
set_option maxRecDepth 10000
section
variable {F : Nat → Prop} {g h h' : LHeap} {x m a t : Nat} {bs bs' : List Int} {root p e : Int} {Zs Ts : List Thing} {st : FSt} {S : Nat → Prop}
theorem frameIn_lt (b : bsOk bs) {f : Int} (h : frameIn bs f) : 0 ≤ f ∧ f < 4096 := by
  have := b.le
  unfold frameIn at h
  omega
theorem frameIn_of (hl : bs'.length = bs.length) (y : Int) : frameIn bs' y ↔ frameIn bs y := by unfold frameIn; rw [hl]
theorem pack_is {f l : Int} (hf : 0 ≤ f ∧ f < 16777216) (hl : isB l) : is32 (packI f l) := by
  rw [packI_eq hf hl]; unfold isB at hl; unfold is32; omega
theorem pack_frame {f l : Int} (hf : 0 ≤ f ∧ f < 16777216) (hl : isB l) : frameI (packI f l) = f := by
  rw [packI_eq hf hl]; unfold isB at hl; unfold frameI; omega
theorem pack_flags {f l : Int} (hf : 0 ≤ f ∧ f < 16777216) (hl : isB l) : flagsI (packI f l) = l := by
  rw [flagsI_eq (pack_is hf hl), packI_eq hf hl]; unfold isB at hl; omega
theorem leaf_grow {s : Int} (b : bsOk bs) (hr : frameIn bs root) (hp : 0 ≤ p ∧ p < 256) (hs : frameIn bs s) : leafP (growP bs root p s) root p = some s := by
  have hlt := frameIn_lt b hs
  have fit := root_fit (root := root) (p := p) (bs := zeroF bs s) ((frameIn_of (zeroF_len _ _) _).2 hr) hp
  have hw : wordAt (growP bs root p s) (rootAt root p).toNat = packI s 1 := wordAt_put (pack_is ⟨by omega, by omega⟩ (by unfold isB; omega)) fit.2.2.2
  unfold leafP
  rw [hw, growP_len hr hp, pack_flags ⟨by omega, by omega⟩ (by unfold isB; omega), pack_frame ⟨by omega, by omega⟩ (by unfold isB; omega)]
  rw [if_pos ⟨rfl, hs.2⟩]
theorem setTail {f : Int} {b : Bool} (Sp : Sep F g h (PTs m a t root bs)) (hb : bsOk bs) (hr : frameIn bs root) (hp : 0 ≤ p ∧ p < 256) (hl : leafP bs root p = some f) :
    J50_3 (.ptr t 0) (i p) (.int .u32 e) (.bool b) h fun v h' => v = .tuple [.bool b, i 0] ∧ Sep F g h' (PTs m a t root (setE bs f p e)) := by
  have x0 := pt_t Sp
  have M := pt_m Sp hb
  have hf := leafP_frame hl
  have hlt := frameIn_lt hb hf
  have fit := ent_fit hf hp
  have L := leaf_ok M hr hp
  rw [hl] at L
  simp (disch := omega) only [J50_3, i, sh, sh2, shc, shi, dec, x0]
  simp only [i] at L
  refine L.mono ?_
  rintro _ h1 ⟨rfl, rfl⟩
  simp (disch := omega) only [i, sh, sh2, shc, shi, dec, x0, ex2]
  refine (at64 (f := f) (p := p) (by omega) (by omega)).mono ?_
  rintro _ h1 ⟨rfl, rfl⟩
  have ea : f * 256 + 4 * (p % 64) = entAt f p := rfl
  simp (disch := omega) only [i, sh, sh2, shc, shi, dec, x0, ea]
  have St := Store32_ok M (entAt f p) fit.1 e
  rw [if_pos ⟨fit.2.2.1, fit.2.1⟩, if_pos ⟨fit.2.2.1, fit.2.1⟩] at St
  refine St.mono ?_
  rintro _ h3 ⟨rfl, T3⟩
  exact ⟨rfl, pt_put Sp T3 (putB_len (by rw [wordB_len]; exact fit.2.2.2))⟩
theorem setHead (Sp : Sep F g h (PTs m a t root bs)) (hb : bsOk bs) (hr : frameIn bs root) (hp : 0 ≤ p ∧ p < 256) (he : is32 e) (hm : mayP bs e) {spare : LV} {K : LV → LHeap → Prop}
    (hK : J50_2 (.ptr t 0) (i p) (.int .u32 e) spare (.bool (leafP bs root p).isNone) h K) : J50_0 (.ptr t 0) (i p) (.int .u32 e) spare h K := by
  have x0 := pt_t Sp
  have M := pt_m Sp hb
  simp only [J50_0]
  refine (made44 x0).mono ?_
  rintro _ h1 ⟨rfl, rfl⟩
  simp (disch := omega) only [i, sh, sh2]
  refine (page45 hp).mono ?_
  rintro _ h1 ⟨rfl, rfl⟩
  simp (disch := omega) only [i, sh, sh2]
  refine (may66 x0 M he hm).mono ?_
  rintro _ h1 ⟨rfl, rfl⟩
  simp (disch := omega) only [i, sh, sh2, J50_1]
  refine (needs48 x0 M hr hp).mono ?_
  rintro _ h1 ⟨rfl, rfl⟩
  exact hK
/-- Set, where there is a leaf. -/
theorem Set_leaf {f spare : Int} (Sp : Sep F g h (PTs m a t root bs)) (hb : bsOk bs) (hr : frameIn bs root) (hp : 0 ≤ p ∧ p < 256) (he : is32 e) (hm : mayP bs e) (hl : leafP bs root p = some f) :
    Ok Try.prog 50 [.ptr t 0, i p, .int .u32 e, i spare] h fun v h' => v = .tuple [.bool false, i 0] ∧ Sep F g h' (PTs m a t root (setE bs f p e)) := by
  refine ok50 fun _ _ => ?_
  simp only [F50]
  refine setHead Sp hb hr hp he hm ?_
  rw [hl]
  show J50_2 _ _ _ _ (.bool false) _ _
  simp (disch := omega) only [J50_2, sh, sh2]
  exact setTail Sp hb hr hp hl
/-- Set, where a leaf is made. -/
theorem Set_grow {spare : Int} (Sp : Sep F g h (PTs m a t root bs)) (hb : bsOk bs) (hr : frameIn bs root) (hp : 0 ≤ p ∧ p < 256) (he : is32 e) (h0 : e ≠ 0) (hm : mayP bs e) (hl : leafP bs root p = none) (hs : frameIn bs spare) :
    Ok Try.prog 50 [.ptr t 0, i p, .int .u32 e, i spare] h fun v h' => v = .tuple [.bool true, i 0] ∧ Sep F g h' (PTs m a t root (setE (growP bs root p spare) spare p e)) := by
  refine ok50 fun _ _ => ?_
  simp only [F50]
  refine setHead Sp hb hr hp he hm ?_
  rw [hl]
  show J50_2 _ _ _ _ (.bool true) _ _
  have e1 : binL Try.prog .eql 53 true (.int .u32 e) (.int .u32 0) = some (.bool (e == 0)) := nr (by kernel_rfl)
  have e2 : (e == 0) = false := by simpa using h0
  simp (disch := omega) only [J50_2, i, sh, sh2, e1, e2]
  refine (grow67 Sp hb hr hp hs).mono ?_
  rintro _ h1 ⟨rfl, S1⟩
  simp (disch := omega) only [i, sh, sh2, shi, dec]
  have hl1 := growP_len (bs := bs) (root := root) (p := p) (spare := spare) hr hp
  exact setTail S1 (hb.of hl1) ((frameIn_of hl1 _).2 hr) hp (leaf_grow hb hr hp hs)
/-- Set of 0, where there is no leaf. -/
theorem Set_none {spare : Int} (Sp : Sep F g h (PTs m a t root bs)) (hb : bsOk bs) (hr : frameIn bs root) (hp : 0 ≤ p ∧ p < 256) (hl : leafP bs root p = none) :
    Ok Try.prog 50 [.ptr t 0, i p, .int .u32 0, i spare] h fun v h' => v = .tuple [.bool false, i 0] ∧ h' = h := by
  refine ok50 fun _ _ => ?_
  simp only [F50]
  have hf0 : flagsI 0 = 0 := by rw [flagsI_eq (by unfold is32; omega)]; rfl
  refine setHead Sp hb hr hp (by unfold is32; omega) (by unfold mayP; rw [hf0, if_neg (by omega)]) ?_
  rw [hl]
  show J50_2 _ _ _ _ (.bool true) _ _
  have e1 : binL Try.prog .eql 53 true (.int .u32 0) (.int .u32 0) = some (.bool true) := nr (by kernel_rfl)
  simp (disch := omega) only [J50_2, i, sh, sh2, e1]
  exact ⟨trivial, trivial⟩
end
end Go.Proofs.Ytfbagndfifibiaa

namespace Go.Proofs.Ytfbagndfifibiaa
open Go.ChangeShapes Go.WideShapes Go.ChangeAt Go.RowKit Go.Lm
set_option linter.unusedSimpArgs false
set_option linter.unusedVariables false
set_option maxRecDepth 10000
section
variable {F : Nat → Prop} {g h h' : LHeap} {x m a t : Nat} {bs bs' : List Int} {root p e : Int} {Zs Ts : List Thing} {st : FSt} {S : Nat → Prop}
theorem Root_ok (x : h.get t = some (.cells [.ptr m 0, i root] .ex)) : Ok Try.prog 58 [.ptr t 0] h fun v h' => v = i root ∧ h' = h := by
  refine ok58 fun _ _ => ?_
  simp only [F58]
  refine (made44 x).mono ?_
  rintro _ h ⟨rfl, rfl⟩
  simp (disch := omega) only [i, sh, sh2, shc, x]
theorem Clip_ok {l : List Int} {V : LV} (R : Row h V intE l) (G : Grow h V 1) : Ok Try.prog 72 [V] h fun U h' => Row h U intE l ∧ h' = h := by
  refine ok72 fun _ _ => ?_
  have hl := R.len (P := Try.prog) ty50
  obtain ⟨U, hc, RU, _⟩ := R.cut3 (n := l.length) (Grow.capd G) (Nat.le_refl _) (limL V h)
  rw [List.take_length] at RU
  have hc' : cutT Try.prog 22 V none (some (.int .i64 l.length)) (some (.int .i64 l.length)) (limL V h) = some U := hc
  simp (disch := omega) only [F72, i, sh, sh2, shi, dec, b_len, hl, hc']
  exact ⟨RU, trivial⟩
def leavesP (bs : List Int) (root : Int) (n : Nat) : List Int := (List.range n).filterMap fun w => leafP bs root (64 * (w : Nat))
theorem leavesP_succ (bs : List Int) (root : Int) (n : Nat) : leavesP bs root (n + 1) = leavesP bs root n ++ (leafP bs root (64 * (n : Nat))).toList := by
  unfold leavesP
  rw [List.range_succ, List.filterMap_append]
  congr 1
theorem leavesP_len (bs : List Int) (root : Int) (n : Nat) : (leavesP bs root n).length ≤ n := by
  unfold leavesP
  exact Nat.le_trans (List.length_filterMap_le _ _) (by simp)
theorem Leaves_ok (x : g.get t = some (.cells [.ptr m 0, i root] .ex)) (M : MemAt g m a bs) (hr : frameIn bs root) (lm : m < g.next) (la : a < g.next) (lt : t < g.next) :
    Ok Try.prog 57 [.ptr t 0] g fun U h => Row h U intE (leavesP bs root 4) ∧ Fr noF g h := by
  refine ok57 fun _ _ => ?_
  simp only [F57, J57_0]
  refine (made44 x).mono ?_
  rintro _ h ⟨rfl, rfl⟩
  simp (disch := omega) only [i, sh, sh2, J57_1, J57_2, J57_4]
  refine loop_n (fun n s h' => ∃ (k : Nat) (V : LV), s = (V, i (k : Int)) ∧ k + n = 4 ∧ Sep noF h h' [Thing.vec intE V (leavesP bs root k)]) (n := 4) ⟨0, .nils, rfl, rfl, (Sep.start noF h).nils intE⟩ ?_
  rintro n s h1 ⟨k, V, rfl, hk, S1⟩
  have x1 := (S1.fr.eq t lt id).trans x
  have M1 := M.fr S1.fr lm la id id
  cases n with
  | zero =>
    obtain rfl : k = 4 := by omega
    simp (disch := omega) only [L57_5, J57_3, i, sh, sh2, shi, dec]
    refine (Clip_ok (S1.row 0 rfl) (S1.grow 0 rfl)).mono ?_
    rintro U h2 ⟨R, rfl⟩
    exact ⟨R, S1.fr⟩
  | succ n =>
    have e6 : binL Try.prog .shl 3 true (.int .i64 (k : Int)) (.int .u64 6) = some (.int .i64 (64 * (k : Int))) := by
      have e : binL Try.prog .shl 3 true (.int .i64 (k : Int)) (.int .u64 6) = some (.int .i64 (IntKind.i64.wrap ((k : Int) * 2 ^ 6))) := nr (by kernel_rfl)
      rw [e]
      congr 2
      unfold IntKind.wrap
      simp [IntKind.signed, IntKind.bits]
      omega
    simp (disch := omega) only [L57_5, i, sh, sh2, shc, shi, dec, x1, e6]
    have L := leaf_ok M1 hr (p := 64 * (k : Int)) (by omega)
    simp only [i] at L
    refine L.mono ?_
    rintro v h2 ⟨rfl, rfl⟩
    cases hl : leafP bs root (64 * (k : Int)) with
    | none =>
      simp (disch := omega) only [i, sh, sh2, shi, dec, ex2]
      refine ⟨n, by omega, k + 1, V, rfl, by omega, ?_⟩
      rw [leavesP_succ, hl]
      simpa using S1
    | some f =>
      have hle := leavesP_len bs root k
      obtain ⟨V', h3, ea, S3, _⟩ := S1.push (E := intE) (V := V) (l := leavesP bs root k) 0 rfl (bytes := 8) f (cs := [i f]) rfl (by omega)
      have hap : builtinL Try.prog .append [22, 22] [V, .slice h2.next 0 1 (.ex 1)] (h2.alloc (.cells [i f] .ex)) = some (V', h3) := (ap50 rfl _).trans ea
      have hb := bs50_1 f h2
      simp only [i] at hap hb
      simp (disch := omega) only [i, sh, sh2, shi, dec, ex2, hb, hap]
      refine ⟨n, by omega, k + 1, V', rfl, by omega, ?_⟩
      rw [leavesP_succ, hl]
      exact S3
/-- All goes over the entries, from page to page. -/
theorem walk71 {c lo : Nat} {I : Nat → LHeap → Prop} (hI : ∀ k h, I k h → h.get c = some (.cells [.ptr t 0] .ex) ∧ h.get t = some (.cells [.ptr m 0, i root] .ex) ∧ MemAt h m a bs) (hr : frameIn bs root) (h0 : I 0 g)
    (hz : ∀ (k : Nat) h, k < 256 → I k h → walkP bs root k = 0 → I (k + 1) h)
    (hy : ∀ (k : Nat) h K, k < 256 → I k h → walkP bs root k ≠ 0 → (∀ h', I (k + 1) h' → K (.bool true) h') → Round Try.prog lo [i k, .int .u32 (walkP bs root k)] h K) :
    Ok Try.prog 71 [.yield lo, .ptr c 0] g fun _ h => I 256 h := by
  refine ok71 fun _ _ => ?_
  obtain ⟨xc, xt, M⟩ := hI 0 g h0
  simp (disch := omega) only [F71, i, sh, sh2, shc, xc]
  refine (made44 xt).mono ?_
  rintro _ h ⟨rfl, rfl⟩
  simp (disch := omega) only [J71_0, J71_1, i, sh, sh2]
  refine loop_n (fun n s h' => ∃ k : Nat, s = i (k : Int) ∧ k + n = 256 ∧ I k h') (n := 256) ⟨0, rfl, rfl, h0⟩ ?_
  rintro n s h1 ⟨k, rfl, hk, I1⟩
  obtain ⟨xc, xt, M⟩ := hI k h1 I1
  cases n with
  | zero =>
    obtain rfl : k = 256 := by omega
    simp (disch := omega) only [L71_2, i, sh, sh2, shi, dec]
    exact I1
  | succ n =>
    simp (disch := omega) only [L71_2, i, sh, sh2, shc, shi, dec, xc, xt]
    have W := walk46 M hr (p := (k : Int)) (by omega)
    simp only [i] at W
    refine W.mono ?_
    rintro _ h2 ⟨rfl, rfl⟩
    have e1 : binL Try.prog .neq 53 true (.int .u32 (walkP bs root k)) (.int .u32 0) = some (.bool (!(walkP bs root k == 0))) := nr (by kernel_rfl)
    by_cases hw : walkP bs root k = 0
    · have e2 : (!(walkP bs root k == 0)) = false := by simp [hw]
      simp (disch := omega) only [i, sh, sh2, shi, dec, e1, e2]
      exact ⟨n, by omega, k + 1, rfl, by omega, hz k h2 (by omega) I1 hw⟩
    · have e2 : (!(walkP bs root k == 0)) = true := by simp [hw]
      simp (disch := omega) only [i, sh, sh2, shi, dec, e1, e2, callV_y]
      refine hy k h2 _ (by omega) I1 hw fun h' I' => ?_
      simp (disch := omega) only [i, sh, sh2, shi, dec]
      exact ⟨n, by omega, k + 1, rfl, by omega, I'⟩
theorem All56_ok (t : Nat) : Ok Try.prog 56 [.ptr t 0] h fun u h' => u = .func (.func 71) [] [.ptr h.next 0] ∧ h' = h.alloc (.cells [.ptr t 0] .ex) := by
  refine ok56 fun _ _ => ?_
  simp (disch := omega) only [F56, i, sh, sh2]
  exact ⟨rfl, rfl⟩
end
end Go.Proofs.Ytfbagndfifibiaa

namespace Go.Proofs.Ytfbagndfifibiaa
open Go.ChangeShapes Go.WideShapes Go.ChangeAt Go.RowKit Go.Lm
set_option linter.unusedSimpArgs false
set_option linter.unusedVariables false
set_option maxRecDepth 10000
/-- A word is stored. -/
def wrS (st : FSt) (addr : Int) (w : Int) : FSt := { st with bs := putB st.bs addr.toNat (wordB w 4) }
theorem wr_fit {st : FSt} (w : FWf st) {y addr : Int} (hy : st.cnt y ≠ 0) (h0 : 256 * y ≤ addr) (h1 : addr + 4 ≤ 256 * y + 256) : addr.toNat + 4 ≤ st.bs.length ∧ 0 ≤ addr ∧ spanIn st.bs addr 4 := by
  have hin := w.frameIn (cnt_pos hy)
  have := frame_fit hin
  unfold frameIn at hin
  exact ⟨by omega, by omega, by unfold spanIn; omega⟩
theorem wr_wf {st : FSt} (w : FWf st) {y addr : Int} (v : Int) (hy : st.cnt y ≠ 0) (h0 : 256 * y ≤ addr) (h1 : addr + 4 ≤ 256 * y + 256) : FWf (wrS st addr v) := by
  obtain ⟨fit, a0, _⟩ := wr_fit w hy h0 h1
  have hw := wordB_len v 4
  have hl : (putB st.bs addr.toNat (wordB v 4)).length = st.bs.length := putB_len (by rw [hw]; exact fit)
  refine ⟨w.h1, w.h8, w.l8, w.le, w.f0, w.n1, ?_, ?_, ?_, ?_, w.cr, w.I1, w.I2, w.so, fun z hz => ?_⟩
  · show (putB st.bs addr.toNat (wordB v 4)).length ≤ _; rw [hl]; exact w.b1
  · show _ ≤ (putB st.bs addr.toNat (wordB v 4)).length; rw [hl]; exact w.b2
  · show (putB st.bs addr.toNat (wordB v 4)).length % 256 = 0; rw [hl]; exact w.b3
  · show _ ≤ (((putB st.bs addr.toNat (wordB v 4)).length / 256 : Nat) : Int); rw [hl]; exact w.fit
  · show frameB (putB st.bs addr.toNat (wordB v 4)) z = _
    have hz' : z ∈ st.all := hz
    obtain ⟨hin, h0'⟩ := w.mem hz'
    have hzf := w.frameIn hin
    unfold frameIn at hzf
    rw [frameB_apart (by rw [hw]; exact fit)]
    · exact w.z z hz'
    · have hne : z ≠ y := fun e => by subst e; exact hy h0'
      rw [hw]; omega
theorem usedL_le (l : List Int) : usedL l ≤ l.length := List.length_filter_le _ _
/-- Alloc, said. -/
theorem alloc_said {st : FSt} (w : FWf st) {k : Nat} (hk : k < st.harts) : (usedL st.counts < st.counts.length ∧ (allocS st k).2.2 = 0 ∧ st.inR (allocS st k).2.1 ∧ st.cnt (allocS st k).2.1 = 0 ∧ frameB st.bs (allocS st k).2.1 = zerosB 256 ∧ (allocS st k).1.first = st.first ∧ (allocS st k).1.harts = st.harts ∧ (allocS st k).1.bs = st.bs ∧ (allocS st k).1.counts.length = st.counts.length ∧ usedL (allocS st k).1.counts = usedL st.counts + 1 ∧ ∀ z, (allocS st k).1.cnt z = if z = (allocS st k).2.1 then 1 else st.cnt z) ∨ (usedL st.counts = st.counts.length ∧ (allocS st k).2.2 = 2 ∧ (allocS st k).1 = st) := by
  have hi : st.isH k := ⟨by omega, by omega⟩
  have i2 := w.I2
  by_cases hf : st.freeN = 0
  · right
    unfold allocS
    rw [if_pos hi, if_pos hf]
    exact ⟨by omega, rfl, rfl⟩
  · left
    have e : allocS st k = (popS (readyS st k) k, ((readyS st k).listOf k).getLastD 0, 0) := by unfold allocS; rw [if_pos hi, if_neg hf]; rfl
    obtain ⟨w2, hne⟩ := ready_wf w hk hf
    have hharts : (readyS st k).harts = st.harts := by unfold readyS; split <;> rfl
    have hfirst : (readyS st k).first = st.first := by unfold readyS; split <;> rfl
    have hcounts : (readyS st k).counts = st.counts := by unfold readyS; split <;> rfl
    have hbs : (readyS st k).bs = st.bs := by unfold readyS; split <;> rfl
    obtain ⟨wp, hr, h0, hm⟩ := pop_wf w2 (k := k) (by omega) hne
    rw [e]
    show _ ∧ _ ∧ st.inR (((readyS st k).listOf k).getLastD 0) ∧ st.cnt (((readyS st k).listOf k).getLastD 0) = 0 ∧ frameB st.bs (((readyS st k).listOf k).getLastD 0) = _ ∧ (popS (readyS st k) k).first = _ ∧ (popS (readyS st k) k).harts = _ ∧ (popS (readyS st k) k).bs = _ ∧ (popS (readyS st k) k).counts.length = _ ∧ usedL (popS (readyS st k) k).counts = _ ∧ ∀ z, (popS (readyS st k) k).cnt z = if z = ((readyS st k).listOf k).getLastD 0 then 1 else st.cnt z
    have hz := w2.z _ hm
    generalize hy : ((readyS st k).listOf k).getLastD 0 = y at *
    have ec : ∀ z, (readyS st k).cnt z = st.cnt z := fun z => by rw [cnt_eq, cnt_eq, hfirst, hcounts]
    have er : (readyS st k).inR y ↔ st.inR y := by unfold FSt.inR; rw [hfirst, hcounts]
    have ep : ∀ z, (popS (readyS st k) k).cnt z = (setC (readyS st k) y 1).cnt z := fun z => by unfold popS setC; rw [hy]; rfl
    have hu := used_set 1 (ix_of hr).2.2
    rw [h0, if_neg (by omega), if_pos (by omega)] at hu
    refine ⟨by omega, rfl, er.1 hr, (ec y).symm.trans h0, by rw [← hbs]; exact hz, hfirst, hharts, hbs, ?_, ?_, fun z => ?_⟩
    · show ((readyS st k).counts.set _ 1).length = _; rw [List.length_set, hcounts]
    · have : usedL (popS (readyS st k) k).counts = usedL ((readyS st k).counts.set ((readyS st k).ix y) 1) := by unfold popS; rw [hy]
      rw [this]
      rw [hcounts] at hu ⊢
      omega
    · rw [ep, setC_cnt hr, ec]
/-- Decr, said, where a frame is used once. -/
theorem decr_said {st : FSt} (w : FWf st) {k : Nat} (hk : k < st.harts) {y : Int} (hy : st.cnt y = 1) : (decrS st k y).2 = (true, 0) ∧ (decrS st k y).1.first = st.first ∧ (decrS st k y).1.harts = st.harts ∧ (decrS st k y).1.counts.length = st.counts.length ∧ usedL (decrS st k y).1.counts + 1 = usedL st.counts ∧ ∀ z, (decrS st k y).1.cnt z = if z = y then 0 else st.cnt z := by
  have hi : st.isH k := ⟨by omega, by omega⟩
  have e : decrS st k y = (backS (setC st y 0) k y, true, 0) := by
    unfold decrS
    rw [if_pos hi, if_neg (by omega), if_neg (by omega)]; rfl
  have hr := cnt_pos (st := st) (y := y) (by omega)
  have hu := used_set 0 (ix_of hr).2.2
  rw [hy, if_pos (by omega), if_neg (by omega)] at hu
  rw [e]
  have b1 : (backS (setC st y 0) k y).first = st.first := by unfold backS; split <;> rfl
  have b2 : (backS (setC st y 0) k y).harts = st.harts := by unfold backS; split <;> rfl
  have b3 : (backS (setC st y 0) k y).counts = (setC st y 0).counts := by unfold backS; split <;> rfl
  refine ⟨rfl, b1, b2, ?_, ?_, fun z => ?_⟩
  · show (backS (setC st y 0) k y).counts.length = _; rw [b3]; simp [setC]
  · show usedL (backS (setC st y 0) k y).counts + 1 = _; rw [b3]; show usedL (st.counts.set _ 0) + 1 = _; omega
  · rw [← setC_cnt hr]
    show (backS (setC st y 0) k y).cnt z = _
    rw [cnt_eq, cnt_eq, b3, b1]; rfl
/-- Bytes turn in no frame but those of Y. -/
structure Only (Y : Int → Prop) (bs bs' : List Int) : Prop where
  len : bs'.length = bs.length
  eq : ∀ z, 0 ≤ z → ¬ Y z → frameB bs' z = frameB bs z
theorem Only.refl (Y : Int → Prop) (bs : List Int) : Only Y bs bs := ⟨rfl, fun _ _ _ => rfl⟩
theorem Only.trans {Y : Int → Prop} {a b c : List Int} (h : Only Y a b) (k : Only Y b c) : Only Y a c := ⟨k.len.trans h.len, fun z h0 hz => (k.eq z h0 hz).trans (h.eq z h0 hz)⟩
theorem Only.mono {Y Z : Int → Prop} {a b : List Int} (h : Only Y a b) (k : ∀ z, Y z → Z z) : Only Z a b := ⟨h.len, fun z h0 hz => h.eq z h0 fun y => hz (k z y)⟩
theorem only_put {bs new : List Int} {off : Nat} {f : Int} (h0 : 0 ≤ f) (a : 256 * f.toNat ≤ off) (b : off + new.length ≤ 256 * f.toNat + 256) (fit : off + new.length ≤ bs.length) : Only (fun z => z = f) bs (putB bs off new) :=
  ⟨putB_len fit, fun z hz hne => frameB_apart fit (by omega)⟩
theorem only_zero (bs : List Int) (f : Int) : Only (fun z => z = f) bs (zeroF bs f) := by
  unfold zeroF
  split
  · rename_i hf
    have hl : (zerosB 256).length = 256 := by simp [zerosB]
    have := frame_fit hf
    exact only_put hf.1 (Nat.le_refl _) (by rw [hl]; omega) (by rw [hl]; exact this)
  · exact Only.refl _ _
theorem only_setE {bs : List Int} {f p e : Int} (hf : frameIn bs f) (hp : 0 ≤ p ∧ p < 256) : Only (fun z => z = f) bs (setE bs f p e) := by
  have fit := ent_fit hf hp
  have h0 := hf.1
  refine only_put h0 ?_ ?_ (by rw [wordB_len]; exact fit.2.2.2)
  · unfold entAt; omega
  · rw [wordB_len]; unfold entAt; omega
theorem only_growP {bs : List Int} {root p s : Int} (hr : frameIn bs root) (hp : 0 ≤ p ∧ p < 256) : Only (fun z => z = root ∨ z = s) bs (growP bs root p s) := by
  have fit := root_fit (root := root) (p := p) (bs := zeroF bs s) ((frameIn_of (zeroF_len _ _) _).2 hr) hp
  have h0 := hr.1
  refine ((only_zero bs s).mono fun z h => .inr h).trans (Only.mono (only_put (f := root) h0 ?_ ?_ (by rw [wordB_len]; exact fit.2.2.2)) fun z h => .inl h)
  · unfold rootAt; omega
  · rw [wordB_len]; unfold rootAt; omega
def FSt.wb (st : FSt) (bs : List Int) : FSt := { st with bs := bs }
theorem wf_only {st : FSt} {bs : List Int} {Y : Int → Prop} (w : FWf st) (O : Only Y st.bs bs) (hY : ∀ z, Y z → st.cnt z ≠ 0) : FWf (st.wb bs) := by
  refine ⟨w.h1, w.h8, w.l8, w.le, w.f0, w.n1, ?_, ?_, ?_, ?_, w.cr, w.I1, w.I2, w.so, fun z hz => ?_⟩
  · show bs.length ≤ _; rw [O.len]; exact w.b1
  · show _ ≤ bs.length; rw [O.len]; exact w.b2
  · show bs.length % 256 = 0; rw [O.len]; exact w.b3
  · show _ ≤ ((bs.length / 256 : Nat) : Int); rw [O.len]; exact w.fit
  · show frameB bs z = _
    have hz' : z ∈ st.all := hz
    obtain ⟨hin, h0⟩ := w.mem hz'
    have hzf := w.frameIn hin
    rw [O.eq z hzf.1 fun y => hY z y h0]
    exact w.z z hz'
/-- A space. -/
structure SpS where
  id : Int
  root : Int
  has : List Bool
  held : Int
def spC (w tb : Nat) (q : SpS) : List LV := .ptr w 0 :: i q.id :: .ptr tb 0 :: (q.has.map .bool ++ [i q.held])
def wC (m x t : Nat) (last : Int) : List LV := [.ptr m 0, .ptr x 0, .ptr t 0, i last]
theorem spc (w tb : Nat) (q : SpS) : cellO none 0 (some (.cells (spC w tb q) .ex)) = some (.ptr w 0) ∧ cellO none 1 (some (.cells (spC w tb q) .ex)) = some (i q.id) ∧ cellO none 2 (some (.cells (spC w tb q) .ex)) = some (.ptr tb 0) := ⟨rfl, rfl, rfl⟩
theorem wc (m x t : Nat) (last : Int) : cellO none 0 (some (.cells (wC m x t last) .ex)) = some (.ptr m 0) ∧ cellO none 1 (some (.cells (wC m x t last) .ex)) = some (.ptr x 0) ∧ cellO none 2 (some (.cells (wC m x t last) .ex)) = some (.ptr t 0) ∧ cellO none 3 (some (.cells (wC m x t last) .ex)) = some (i last) := ⟨rfl, rfl, rfl, rfl⟩
theorem spc_held {w tb : Nat} {q : SpS} (h : q.has.length = 256) : cellO none 259 (some (.cells (spC w tb q) .ex)) = some (i q.held) := by
  show (spC w tb q)[259]? = _
  unfold spC
  rw [List.getElem?_cons_succ, List.getElem?_cons_succ, List.getElem?_cons_succ, List.getElem?_append_right (by simp [h])]
  simp [h]
theorem spc_has {w tb k : Nat} {q : SpS} {b : Bool} (h : q.has[k]? = some b) : cellO none (3 + k) (some (.cells (spC w tb q) .ex)) = some (.bool b) := by
  show (spC w tb q)[3 + k]? = _
  have hk := (List.getElem?_eq_some_iff.1 h).1
  unfold spC
  rw [show 3 + k = k + 1 + 1 + 1 by omega, List.getElem?_cons_succ, List.getElem?_cons_succ, List.getElem?_cons_succ, List.getElem?_append_left (by simpa using hk), List.getElem?_map, h]
  rfl
theorem sp_held {w tb : Nat} {q : SpS} (h : q.has.length = 256) (n : Int) : (spC w tb q).set 259 (i n) = spC w tb { q with held := n } := by
  unfold spC
  show _ :: _ :: _ :: (q.has.map LV.bool ++ [i q.held]).set 256 _ = _
  rw [List.set_append_right _ _ (by simp [h])]
  simp [h]
theorem sp_has {w tb k : Nat} {q : SpS} (h : k < q.has.length) (b : Bool) : (spC w tb q).set (3 + k) (.bool b) = spC w tb { q with has := q.has.set k b } := by
  unfold spC
  rw [show 3 + k = k + 1 + 1 + 1 by omega]
  show _ :: _ :: _ :: (q.has.map LV.bool ++ [i q.held]).set k _ = _
  rw [List.set_append_left _ _ (by simpa using h), ← List.map_set]
def boolE : Enc Bool := ⟨fun b => [.bool b], 1, fun _ => rfl, fun b v h => by
  simp only [List.mem_cons, List.not_mem_nil, or_false] at h
  subst h; rfl, by decide⟩
section
variable {F : Nat → Prop} {g h h' : LHeap} {x m a t w s tb : Nat} {q : SpS} {last : Int}
theorem ps_t : Try.prog.underlying 26 = some (.pointer 66) := by kernel_rfl
theorem pw_t : Try.prog.underlying 32 = some (.pointer 59) := by kernel_rfl
theorem made20 (xs : h.get s = some (.cells (spC w tb q) .ex)) : Ok Try.prog 20 [.ptr s 0] h fun v h' => v = .bool true ∧ h' = h := by
  refine ok20 fun _ _ => ?_
  have np := nil_p (P := Try.prog) ps_t true
  have nw := nil_p (P := Try.prog) pw_t true
  have c := spc w tb q
  simp (disch := omega) only [F20, i, sh, sh2, shc, shi, dec, np, nw, xs, c]
def fitsP (a n : Int) : Prop := 1 ≤ n ∧ 0 ≤ a ∧ a ≤ 256 ∧ n ≤ 256 - a
instance (a n : Int) : Decidable (fitsP a n) := by unfold fitsP; infer_instance
theorem fits23 (a n : Int) : Ok Try.prog 23 [i a, i n] h fun v h' => v = .bool (decide (fitsP a n)) ∧ h' = h := by
  refine ok23 fun _ _ => ?_
  by_cases h1 : 1 ≤ n
  · by_cases h2 : 0 ≤ a
    · by_cases h3 : a ≤ 256
      · by_cases h4 : n ≤ 256 - a
        · have e : fitsP a n := ⟨h1, h2, h3, h4⟩
          rw [decide_eq_true e]
          simp (disch := omega) only [F23, i, sh, sh2, shi, dec]
          exact ⟨trivial, trivial⟩
        · have e : ¬ fitsP a n := fun e => h4 e.2.2.2
          rw [decide_eq_false e]
          simp (disch := omega) only [F23, i, sh, sh2, shi, dec]
          exact ⟨trivial, trivial⟩
      · have e : ¬ fitsP a n := fun e => h3 e.2.2.1
        rw [decide_eq_false e]
        simp (disch := omega) only [F23, i, sh, sh2, shi, dec]
        exact ⟨trivial, trivial⟩
    · have e : ¬ fitsP a n := fun e => h2 e.2.1
      rw [decide_eq_false e]
      simp (disch := omega) only [F23, i, sh, sh2, shi, dec]
      exact ⟨trivial, trivial⟩
  · have e : ¬ fitsP a n := fun e => h1 e.1
    rw [decide_eq_false e]
    simp (disch := omega) only [F23, i, sh, sh2, shi, dec]
    exact ⟨trivial, trivial⟩
theorem ty103 : Try.prog.underlying 103 = some (.slice 4) := by kernel_rfl
theorem has_row (xs : h.get s = some (.cells (spC w tb q) .ex)) (h256 : q.has.length = 256) {k n : Nat} (hkn : k + n ≤ 256) (off : Nat) (ho : n = 0 ∧ off ≤ 259 ∨ off = 3 + k) (c : Cap) : Row h (.slice s off n c) boolE ((q.has.drop k).take n) := by
  have hlen : ((q.has.drop k).take n).length = n := by rw [List.length_take, List.length_drop]; omega
  refine Row.of xs hlen.symm ?_ ?_
  · rw [hlen]
    rcases ho with ⟨rfl, _⟩ | rfl
    · simp [boolE]
    · have e : ∀ l : List Bool, l.flatMap boolE.f = l.map .bool := fun l => by induction l with | nil => rfl | cons a l ih => simp [boolE] at ih ⊢; exact ih
      rw [e]
      unfold spC
      rw [show 3 + k = k + 1 + 1 + 1 by omega]
      simp only [List.drop_succ_cons]
      rw [List.drop_append_of_le_length (by simp; omega), List.take_append_of_le_length (by simp [boolE]; omega), ← List.map_drop, ← List.map_take]
      simp [boolE]
  · rw [hlen]
    have : (spC w tb q).length = 260 := by simp [spC, h256]
    rw [this]
    show off + n * 1 ≤ 260
    rcases ho with ⟨rfl, h⟩ | rfl <;> omega
/-- The first place of true in a row; below 0: nowhere. -/
theorem Index61 {l : List Bool} {V : LV} (R : Row h V boolE l) (hl : l.length ≤ 1000) : Ok Try.prog 61 [V, .bool true] h fun v h' => (∃ n : Int, v = i n ∧ (decide (0 ≤ n) = l.contains true)) ∧ h' = h := by
  refine ok61 fun _ _ => ?_
  have hln := R.len (P := Try.prog) ty103
  simp (disch := omega) only [F61, J61_0, J61_2, i, sh, sh2, shi, dec, b_len, hln]
  refine loop_n (fun n s h' => ∃ k : Nat, s = i (k : Int) ∧ k + n = l.length ∧ h' = h ∧ l.contains true = (l.drop k).contains true) (n := l.length) ⟨0, rfl, by omega, rfl, by simp⟩ ?_
  rintro n s h ⟨k, rfl, hk, rfl, he⟩
  cases n with
  | zero =>
    simp (disch := omega) only [L61_3, J61_1, i, sh, sh2, shi, dec]
    refine ⟨⟨-1, rfl, ?_⟩, trivial⟩
    rw [he, List.drop_of_length_le (by omega)]
    rfl
  | succ n =>
    obtain ⟨v, hv, hd⟩ := drop_at (l := l) (k := k) (by omega)
    have hix := R.ix (k := .i64) (i := k) (by omega)
    have hld := R.ld1 hv rfl rfl
    have e1 : boolE.e = 1 := rfl
    rw [e1] at hix
    rw [hd, List.contains_cons] at he
    have eb : ∀ b : Bool, binL Try.prog .eql 4 false (.bool true) (.bool b) = some (.bool (true == b)) := fun b => nr (by cases b <;> kernel_rfl)
    cases v with
    | true =>
      have e2 := eb true
      have e3 : (true == true) = true := rfl
      simp (disch := omega) only [L61_3, i, sh, sh2, shi, dec, hix, hld, e2, e3]
      refine ⟨⟨k, rfl, ?_⟩, trivial⟩
      rw [he, decide_eq_true (by omega)]
      rfl
    | false =>
      have e2 := eb false
      have e3 : (true == false) = false := rfl
      simp (disch := omega) only [L61_3, i, sh, sh2, shi, dec, hix, hld, e2, e3]
      exact ⟨n, by omega, k + 1, rfl, by omega, trivial, by rw [he]; simp⟩
end
end Go.Proofs.Ytfbagndfifibiaa

namespace Go.Proofs.Ytfbagndfifibiaa
open Go.ChangeShapes Go.WideShapes Go.ChangeAt Go.RowKit Go.Lm
set_option linter.unusedSimpArgs false
set_option linter.unusedVariables false
set_option maxRecDepth 10000
/-- The object s became these cells; nothing else turned. -/
structure To (h h' : LHeap) (s : Nat) (cs : List LV) : Prop where
  fr : Fr (fun b => b = s) h h'
  at_ : h'.get s = some (.cells cs .ex)
  next : h'.next = h.next
section
variable {F : Nat → Prop} {g h h' : LHeap} {x m a t w s tb : Nat} {q : SpS} {last : Int} {Ts : List Thing} {cs ds : List LV}
theorem To.refl (e : h.get s = some (.cells cs .ex)) : To h h s cs := ⟨Fr.refl _ _, e, rfl⟩
theorem To.set (T : To h h' s cs) (ds : List LV) : To h (h'.set s (.cells ds .ex)) s ds := ⟨T.fr.set' _ (.inr rfl), get_set_eq _ _ _, T.next⟩
theorem to_put (Sp : Sep F g h Ts) (k : Nat) (hi : Ts[k]? = some (Thing.cells s ds)) (T : To h h' s cs) : Sep F g h' (Ts.set k (Thing.cells s cs)) :=
  Sp.put k hi (Thing.cells s cs) T.fr T.at_ fun b hb => ⟨.inl hb, Nat.lt_of_lt_of_le (Sp.lt k hi hb) T.fr.le⟩
theorem st_cell {k : Nat} (e : h.get s = some (.cells cs .ex)) (hk : k < cs.length) {v : LV} (hv : v.cell = true) : storeV 1 (.ptr s k) v h = some (h.set s (.cells (cs.set k v) .ex)) := by
  rw [store_o _ _ _ hv, e, set_o, List.getElem?_eq_getElem hk]
  rfl
theorem spC_len (h : q.has.length = 256) : (spC w tb q).length = 260 := by simp [spC, h]
theorem cut64 {lim : Nat} {f n : Int} (hf : fitsP f n) : cutT Try.prog 64 (.ptr s 3) (some (.int .i64 f)) (some (.int .i64 (f + n))) none lim = some (.slice s (3 + f.toNat) n.toNat (.ex (256 - f).toNat)) := by
  have e : cutT Try.prog 64 (.ptr s 3) (some (.int .i64 f)) (some (.int .i64 (f + n))) none lim = cutArrL 256 1 (.ptr s 3) (some f) (some (f + n)) none := nr (by kernel_rfl)
  rw [e]
  unfold fitsP at hf
  simp only [cutArrL, Option.getD_some, Option.getD_none, Option.isSome_none, Option.isSome_some]
  rw [if_pos ⟨by omega, by omega, by omega, by omega, fun h => by cases h⟩, if_neg (by omega)]
  congr 2
  · omega
  · omega
def freeP (q : SpS) (f n : Int) : Bool := !(((q.has.drop f.toNat).take n.toNat).contains true)
theorem free24 (xs : h.get s = some (.cells (spC w tb q) .ex)) (h256 : q.has.length = 256) {f n : Int} (hf : fitsP f n) : Ok Try.prog 24 [.ptr s 0, i f, i n] h fun v h' => v = .bool (freeP q f n) ∧ h' = h := by
  refine ok24 fun _ _ => ?_
  have hf' := hf
  unfold fitsP at hf'
  have hc := cut64 (s := s) (lim := limL (.ptr s 3) h) hf
  simp (disch := omega) only [F24, i, sh, sh2, shi, dec, hc]
  have R := has_row xs h256 (k := f.toNat) (n := n.toNat) (by omega) (3 + f.toNat) (.inr rfl) (.ex (256 - f).toNat)
  refine Ok.mono (K := fun v h' => v = .bool (((q.has.drop f.toNat).take n.toNat).contains true) ∧ h' = h) ?_ ?_
  · refine ok42 fun _ _ => ?_
    simp only [F42]
    refine (Index61 R (by rw [List.length_take, List.length_drop]; omega)).mono ?_
    rintro _ h1 ⟨⟨k, rfl, hk⟩, rfl⟩
    simp (disch := omega) only [i, sh, sh2]
    rw [← hk]
    by_cases h0 : 0 ≤ k
    · simp (disch := omega) only [i, sh, sh2, shi, dec]
      exact ⟨trivial, trivial⟩
    · simp (disch := omega) only [i, sh, sh2, shi, dec]
      exact ⟨trivial, trivial⟩
  · rintro _ h1 ⟨rfl, rfl⟩
    unfold freeP
    simp (disch := omega) only [i, sh, sh2]
    exact ⟨trivial, trivial⟩
/-- From f on, n more are true. -/
def setR (l : List Bool) (f : Nat) : Nat → List Bool
  | 0 => l
  | n + 1 => (setR l f n).set (f + n) true
theorem setR_len (l : List Bool) (f : Nat) : ∀ n, (setR l f n).length = l.length
  | 0 => rfl
  | n + 1 => by simp [setR, setR_len l f n]
def mapP (q : SpS) (f n : Int) : SpS := { q with has := setR q.has f.toNat n.toNat }
theorem Map_ok (xs : h.get s = some (.cells (spC w tb q) .ex)) (h256 : q.has.length = 256) {f n : Int} (f1 : -9223372036854775808 ≤ f ∧ f < 9223372036854775808) (n1 : -9223372036854775808 ≤ n ∧ n < 9223372036854775808) :
    Ok Try.prog 14 [.ptr s 0, i f, i n] h fun v h' => (¬ fitsP f n ∧ v = i 1 ∧ h' = h) ∨ (fitsP f n ∧ freeP q f n = false ∧ v = i 130 ∧ h' = h) ∨ (fitsP f n ∧ freeP q f n = true ∧ v = i 0 ∧ To h h' s (spC w tb (mapP q f n))) := by
  refine ok14 fun _ _ => ?_
  simp only [F14, J14_0]
  refine (made20 xs).mono ?_
  rintro _ h ⟨rfl, rfl⟩
  simp (disch := omega) only [i, sh, sh2]
  refine (fits23 f n).mono ?_
  rintro _ h ⟨rfl, rfl⟩
  by_cases hf : fitsP f n
  · rw [decide_eq_true hf]
    simp (disch := omega) only [i, sh, sh2]
    refine (free24 xs h256 hf).mono ?_
    rintro _ h ⟨rfl, rfl⟩
    cases hfr : freeP q f n with
    | false =>
      simp (disch := omega) only [i, sh, sh2]
      exact .inr (.inl ⟨hf, trivial, trivial, trivial⟩)
    | true =>
      have hf' := hf
      unfold fitsP at hf'
      simp (disch := omega) only [i, sh, sh2, J14_1, J14_3]
      refine loop_n (fun r v h' => ∃ k : Nat, v = i (f + (k : Int)) ∧ (k : Int) + r = n ∧ To h h' s (spC w tb { q with has := setR q.has f.toNat k })) (n := n.toNat) ⟨0, by simp, by omega, To.refl xs⟩ ?_
      rintro r v h1 ⟨k, rfl, hk, T⟩
      cases r with
      | zero =>
        simp (disch := omega) only [L14_4, J14_2, i, sh, sh2, shi, dec]
        refine .inr (.inr ⟨hf, trivial, trivial, ?_⟩)
        unfold mapP
        rw [show n.toNat = k by omega]
        exact T
      | succ r =>
        have hl := setR_len q.has f.toNat k
        have hix : ixAddrL (some 256) 1 (.ptr s 3) (.int .i64 (f + (k : Int))) = some (.ptr s (3 + (f.toNat + k))) := by
          have e : f + (k : Int) = ((f.toNat + k : Nat) : Int) := by omega
          rw [e]
          simp only [ixAddrL, intL]
          rw [if_pos ⟨by omega, by omega⟩]
          congr 2
          omega
        have hst := st_cell (k := 3 + (f.toNat + k)) T.at_ (by rw [spC_len (by rw [hl, h256])]; omega) (v := .bool true) rfl
        rw [sp_has (by show f.toNat + k < (setR q.has f.toNat k).length; rw [hl]; omega)] at hst
        simp (disch := omega) only [L14_4, i, sh, sh2, shi, dec, hix, hst]
        refine ⟨r, by omega, k + 1, ?_, by omega, T.set _⟩
        congr 1
        push_cast
        omega
  · rw [decide_eq_false hf]
    simp (disch := omega) only [i, sh, sh2]
    exact .inl ⟨hf, trivial, trivial⟩
theorem Has_ok (xs : h.get s = some (.cells (spC w tb q) .ex)) (h256 : q.has.length = 256) (p : Int) : Ok Try.prog 32 [.ptr s 0, i p] h fun v h' => v = .bool (decide (0 ≤ p ∧ p < 256) && q.has.getD p.toNat false) ∧ h' = h := by
  refine ok32 fun _ _ => ?_
  simp only [F32]
  refine (made20 xs).mono ?_
  rintro _ h ⟨rfl, rfl⟩
  by_cases h0 : 0 ≤ p
  · by_cases h1 : p < 256
    · have hlt : p.toNat < q.has.length := by omega
      have hb : q.has[p.toNat]? = some (q.has.getD p.toNat false) := by rw [List.getD_eq_getElem?_getD, List.getElem?_eq_getElem hlt]; rfl
      have hc := spc_has (w := w) (tb := tb) hb
      have hix : ixAddrL (some 256) 1 (.ptr s 3) (.int .i64 p) = some (.ptr s (3 + p.toNat)) := by
        simp only [ixAddrL, intL]
        rw [if_pos ⟨by omega, by omega⟩]
        congr 2
        omega
      rw [decide_eq_true ⟨h0, h1⟩]
      simp (disch := omega) only [i, sh, sh2, shc, shi, dec, hix, xs, hc]
      rfl
    · rw [decide_eq_false (by omega)]
      simp (disch := omega) only [i, sh, sh2, shc, shi, dec]
      rfl
  · rw [decide_eq_false (by omega)]
    simp (disch := omega) only [i, sh, sh2, shc, shi, dec]
    rfl
theorem Lock_ok (xs : h.get s = some (.cells (spC w tb q) .ex)) (h256 : q.has.length = 256) (n : Int) : Ok Try.prog 8 [.ptr s 0, i n] h fun v h' => (n < 1 ∧ v = .bool false ∧ h' = h) ∨ (1 ≤ n ∧ q.held ≠ 0 ∧ q.held ≠ n ∧ v = .bool false ∧ h' = h) ∨ (1 ≤ n ∧ (q.held = 0 ∨ q.held = n) ∧ v = .bool true ∧ To h h' s (spC w tb { q with held := n })) := by
  refine ok8 fun _ _ => ?_
  simp only [F8]
  refine (made20 xs).mono ?_
  rintro _ h ⟨rfl, rfl⟩
  have hc := spc_held (w := w) (tb := tb) h256
  by_cases h1 : 1 ≤ n
  · have hst := st_cell (k := 259) xs (by rw [spC_len h256]; omega) (v := i n) rfl
    rw [sp_held h256] at hst
    simp only [i] at hst
    by_cases h0 : q.held = 0
    · have e0 : (!(q.held == 0)) = false := by simp [h0]
      simp (disch := omega) only [i, sh, sh2, shc, shi, dec, xs, hc, binL_neq_int, e0, hst]
      exact .inr (.inr ⟨h1, .inl h0, (To.refl xs).set _⟩)
    · have e0 : (!(q.held == 0)) = true := by simp [h0]
      by_cases hn : q.held = n
      · have e1 : (!(q.held == n)) = false := by simp [hn]
        simp (disch := omega) only [i, sh, sh2, shc, shi, dec, xs, hc, binL_neq_int, e0, e1, hst]
        exact .inr (.inr ⟨h1, .inr hn, (To.refl xs).set _⟩)
      · have e1 : (!(q.held == n)) = true := by simp [hn]
        simp (disch := omega) only [i, sh, sh2, shc, shi, dec, xs, hc, binL_neq_int, e0, e1]
        exact .inr (.inl ⟨h1, h0, hn⟩)
  · simp (disch := omega) only [i, sh, sh2, shc, shi, dec]
    exact .inl (by omega)
theorem Locked_ok (xs : h.get s = some (.cells (spC w tb q) .ex)) (h256 : q.has.length = 256) : Ok Try.prog 9 [.ptr s 0] h fun v h' => v = i q.held ∧ h' = h := by
  refine ok9 fun _ _ => ?_
  simp only [F9]
  refine (made20 xs).mono ?_
  rintro _ h ⟨rfl, rfl⟩
  have hc := spc_held (w := w) (tb := tb) h256
  simp (disch := omega) only [i, sh, sh2, shc, xs, hc]
theorem Unlock_ok (xs : h.get s = some (.cells (spC w tb q) .ex)) (h256 : q.has.length = 256) (n : Int) : Ok Try.prog 7 [.ptr s 0, i n] h fun v h' => ((q.held = 0 ∨ q.held ≠ n) ∧ v = i 131 ∧ h' = h) ∨ (q.held ≠ 0 ∧ q.held = n ∧ v = i 0 ∧ To h h' s (spC w tb { q with held := 0 })) := by
  refine ok7 fun _ _ => ?_
  simp only [F7]
  refine (made20 xs).mono ?_
  rintro _ h ⟨rfl, rfl⟩
  have hc := spc_held (w := w) (tb := tb) h256
  by_cases h0 : q.held = 0
  · have e0 : (q.held == 0) = true := by simp [h0]
    simp (disch := omega) only [i, sh, sh2, shc, shi, dec, xs, hc, binL_eql_int, e0]
    exact .inl (.inl h0)
  · have e0 : (q.held == 0) = false := by simp [h0]
    by_cases hn : q.held = n
    · have e1 : (!(q.held == n)) = false := by simp [hn]
      have hst := st_cell (k := 259) xs (by rw [spC_len h256]; omega) (v := i 0) rfl
      rw [sp_held h256] at hst
      simp only [i] at hst
      simp (disch := omega) only [i, sh, sh2, shc, shi, dec, xs, hc, binL_eql_int, binL_neq_int, e0, e1, hst]
      exact .inr ⟨h0, hn, (To.refl xs).set _⟩
    · have e1 : (!(q.held == n)) = true := by simp [hn]
      simp (disch := omega) only [i, sh, sh2, shc, shi, dec, xs, hc, binL_eql_int, binL_neq_int, e0, e1]
      exact .inl (.inr hn)
end
end Go.Proofs.Ytfbagndfifibiaa
