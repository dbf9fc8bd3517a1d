/-
  namec: a path's names, program and reference.
-/
import Derived.Test.YthinkofjbabfbaaDoorNcP
import Derived.Test.YthinkofjbabfbaaDoorNcA
import Derived.Test.YthinkofjbabfbaaDoorLm7x
set_option linter.all false
namespace Go.Proofs.YthinkofjbabfbaaDoor
open Go.ChangeShapes Go.WideShapes Go.ChangeAt Go.RowKit Go.Lm
set_option linter.unusedSimpArgs false
set_option linter.unusedVariables false
set_option maxRecDepth 10000
abbrev Str := List UInt8
def strE : Enc Str := ⟨fun s => [.str s], 1, fun _ => rfl, fun s v h => by simp only [List.mem_singleton] at h; subst h; rfl, by decide⟩
theorem u9 : Tryd.prog.underlying 9 = some .string := by kernel_rfl
theorem ty22 : Tryd.prog.underlying 22 = some (.slice 9) := by kernel_rfl
theorem sz9 : sizeL Tryd.prog 9 = some 1 := by kernel_rfl
theorem bs22_1 (h : LHeap) (s : Str) : buildSliceL Tryd.prog 22 1 [(0, .str s)] h = some (.slice h.next 0 1 (.ex 1), h.alloc (.cells [.str s] .ex)) := nr (by kernel_rfl)
theorem ap22 {V U : LV} (hU : U.isStr = false) (g : LHeap) : builtinL Tryd.prog .append [22, 22] [V, U] g = appendL 1 16 V U g := append_ok (by kernel_rfl) hU g
theorem slen (s : Str) (g : LHeap) : lenL Tryd.prog 9 (.str s) g = some (.int .i64 (s.length : Nat)) := nr (by kernel_rfl)
theorem slen1 (g : LHeap) : lenL Tryd.prog 9 (.str [47]) g = some (.int .i64 1) := nr (by kernel_rfl)
theorem ixS {s : Str} {k : Nat} {b : UInt8} (h : s[k]? = some b) : indexT Tryd.prog 9 (.str s) (.int .i64 (k : Int)) = some (.int .u8 (b.toNat : Int)) := by
  have hk := (List.getElem?_eq_some_iff.1 h).1
  simp only [indexT, u9, ixStrL, intL]
  simp [h]
theorem cutHi (s : Str) {k : Nat} (hk : k ≤ s.length) (lim : Nat) : cutT Tryd.prog 9 (.str s) none (some (.int .i64 (k : Int))) none lim = some (.str (s.take k)) := by
  simp only [cutT, optInt, intL, Option.map_some, u9, Option.isSome_none, Bool.false_eq_true, if_false, cutStrL]
  rw [if_pos (by simp; omega)]
  simp
theorem cutLo (s : Str) {k : Nat} (hk : k ≤ s.length) (lim : Nat) : cutT Tryd.prog 9 (.str s) (some (.int .i64 (k : Int))) none none lim = some (.str (s.drop k)) := by
  simp only [cutT, optInt, intL, Option.map_some, u9, Option.isSome_none, Bool.false_eq_true, if_false, cutStrL]
  rw [if_pos (by simp; omega)]
  simp
theorem mk22 {n : Nat} (hn : n ≤ 2 ^ 40) (h : LHeap) : makeSliceL Tryd.prog 22 (i n) (i n) h = some (.slice h.next 0 n (.ex n), h.alloc (.cells ((List.replicate n ([] : Str)).flatMap strE.f) .ex)) := by
  have e : makeSliceL Tryd.prog 22 (i n) (i n) h = if 0 ≤ (n : Int) ∧ (n : Int) ≤ n ∧ (16 : Int) * n ≤ 2 ^ 48 ∧ (n : Int) < 2 ^ 62 ∧ (LV.str []).cells.length = 1 ∧ (LV.str []).cellsOK = true then
      some (.slice h.next 0 (n : Int).toNat (.ex (n : Int).toNat), h.alloc (.cells (List.replicate (n : Int).toNat (LV.str []).cells).flatten .ex)) else none := nr (by kernel_rfl)
  rw [e, if_pos ⟨by omega, by omega, by omega, by omega, rfl, rfl⟩]
  simp only [Int.toNat_natCast]
  rw [← rep_flat]
  rfl
theorem min_i (a b : Int) (h : LHeap) : builtinL Tryd.prog .min [3, 3] [i a, i b] h = some (i (if b < a then b else a), h) := rfl
theorem add3 {a b : Int} (h1 : -4611686018427387904 ≤ a + b) (h2 : a + b ≤ 4611686018427387904) (c : Bool) : binL Tryd.prog .add 3 c (i a) (i b) = some (i (a + b)) := by
  have e : binL Tryd.prog .add 3 c (i a) (i b) = some (i (IntKind.i64.wrap (a + b))) := nr rfl
  rw [e]
  congr 2
  unfold IntKind.wrap
  simp [IntKind.signed, IntKind.bits]
  omega
/-! ### Plain -/
def segs : Str → List Str
  | [] => [[]]
  | b :: l => if b = 47 then [] :: segs l else match segs l with | x :: r => (b :: x) :: r | [] => [[b]]
theorem segs_ne : ∀ s, segs s ≠ []
  | [] => by simp [segs]
  | b :: l => by
    rw [segs]
    split
    · simp
    · split <;> simp
theorem segs_one : ∀ {s : Str}, (47 : UInt8) ∉ s → segs s = [s]
  | [], _ => rfl
  | b :: l, h => by
    rw [List.mem_cons, not_or] at h
    rw [segs, if_neg fun e => h.1 e.symm, segs_one h.2]
theorem segs_mid : ∀ {p : Str} (q : Str), (47 : UInt8) ∉ p → segs (p ++ 47 :: q) = p :: segs q
  | [], q, _ => by rw [List.nil_append, segs, if_pos rfl]
  | b :: l, q, h => by
    rw [List.mem_cons, not_or] at h
    rw [List.cons_append, segs, if_neg fun e => h.1 e.symm, segs_mid q h.2]
theorem segs_len : ∀ s : Str, (segs s).length = s.count 47 + 1
  | [] => rfl
  | b :: l => by
    have ih := segs_len l
    rw [segs, List.count_cons]
    by_cases h : b = 47
    · rw [if_pos h, List.length_cons, ih, h]; simp
    · rw [if_neg h]
      have h' : (b == 47) = false := by simpa using h
      rw [h']
      cases hs : segs l with
      | nil => exact absurd hs (segs_ne l)
      | cons x r => rw [hs] at ih; simp only [List.length_cons] at ih ⊢; simp; omega
theorem segs_mem : ∀ {s : Str} {x}, x ∈ segs s → x.length ≤ s.length
  | [], x, h => by simp [segs] at h; subst h; simp
  | b :: l, x, h => by
    rw [segs] at h
    by_cases hb : b = 47
    · rw [if_pos hb] at h
      rcases List.mem_cons.1 h with rfl | h
      · simp
      · have := segs_mem h; rw [List.length_cons]; omega
    · rw [if_neg hb] at h
      cases hs : segs l with
      | nil => exact absurd hs (segs_ne l)
      | cons y r =>
        rw [hs] at h
        rcases List.mem_cons.1 h with rfl | h
        · have := segs_mem (s := l) (x := y) (by rw [hs]; simp); simp only [List.length_cons]; omega
        · have := segs_mem (s := l) (x := x) (by rw [hs]; simp [h]); rw [List.length_cons]; omega
theorem idxB_no {c : UInt8} : ∀ {s : Str} (n : Nat), c ∉ s → idxB c s n = -1
  | [], _, _ => rfl
  | b :: l, n, h => by
    rw [List.mem_cons, not_or] at h
    have : (b == c) = false := by rw [beq_eq_false_iff_ne]; exact fun e => h.1 e.symm
    rw [idxB, this]; exact idxB_no _ h.2
theorem idxB_at {c : UInt8} : ∀ {p : Str} (q : Str) (n : Nat), c ∉ p → idxB c (p ++ c :: q) n = (n + p.length : Nat)
  | [], q, n, _ => by rw [List.nil_append, idxB]; simp
  | b :: l, q, n, h => by
    rw [List.mem_cons, not_or] at h
    have : (b == c) = false := by rw [beq_eq_false_iff_ne]; exact fun e => h.1 e.symm
    rw [List.cons_append, idxB, this]
    show idxB c (l ++ c :: q) (n + 1) = _
    rw [idxB_at q (n + 1) h.2, List.length_cons]
    have : n + 1 + l.length = n + (l.length + 1) := by omega
    rw [this]
theorem idxB_ge {c : UInt8} {s : Str} : 0 ≤ idxB c s 0 ↔ c ∈ s := by
  by_cases h : c ∈ s
  · obtain ⟨p, q, rfl, hp⟩ := List.eq_append_cons_of_mem h
    rw [idxB_at q 0 hp]; simp
  · rw [idxB_no 0 h]; simp [h]
def nz : Str → Bool
  | [] => false
  | _ :: _ => true
theorem nz_one {x : Str} (h : x ≠ []) : [x].filter nz = [x] := by cases x with | nil => exact absurd rfl h | cons b l => rfl
def namesS (s : Str) : List Str := (segs s).filter nz
def FineP (s : Str) : Prop := 1 ≤ s.length ∧ s.length ≤ 64 ∧ s.head? = some 47 ∧ (0 : UInt8) ∉ s ∧ (∀ x ∈ segs s, x.length ≤ 14) ∧ (namesS s).length ≤ 32
section
variable {g h : LHeap} {s : Str}
theorem idx53 (s : Str) : Ok Tryd.prog 53 [.str s, .int .u8 0] g fun v h => v = .int .i64 (idxB 0 s 0) ∧ h = g := by
  refine ok53 fun _ _ => ?_
  simp only [F53]
  refine ok93 fun _ _ => ?_
  have e : extL Tryd.prog 118 [.str s, .int .u8 0] = some (.int .i64 (idxB 0 s 0)) := nr (by kernel_rfl)
  simp only [F93, callV, List.nil_append, List.append_nil, e]
  exact ⟨trivial, trivial⟩
theorem cnt120 (s : Str) : Ok Tryd.prog 120 [.str s, .str [47]] g fun v h => v = .int .i64 (s.count 47 : Nat) ∧ h = g := by
  refine ok120 fun _ _ => ?_
  have e : extL Tryd.prog 138 [.str s, .int .u8 47] = some (.int .i64 (s.count 47 : Nat)) := nr (by kernel_rfl)
  have e1 : indexT Tryd.prog 9 (.str [47]) (.int .i64 0) = some (.int .u8 47) := nr (by kernel_rfl)
  have l1 := slen1
  simp (disch := omega) only [F120, J120_0, J120_1, i, sh, sh2, shi, dec, b_len, l1, e1, List.length_cons, List.length_nil]
  simp only [callV, List.nil_append, List.append_nil, e]
  exact ⟨trivial, trivial⟩
set_option maxHeartbeats 1000000 in
/-- strings.Split at slashes. -/
theorem split94 (s : Str) (hs : s.length ≤ 64) : Ok Tryd.prog 94 [.str s, .str [47], i 0, i (-1)] g fun v h => Fr noF g h ∧ Row h v strE (segs s) ∧ ∀ a, v.obj = some a → a < h.next := by
  refine ok94 fun _ _ => ?_
  have e0 : binL Tryd.prog .eql 9 true (.str [47]) (.str []) = some (.bool false) := by rw [binL_eql_str]; rfl
  have l0 := slen s
  have l1 := slen1
  have hc : s.count 47 ≤ s.length := List.count_le_length
  have hsl := segs_len s
  simp (disch := omega) only [F94, J94_0, J94_1, J94_2, i, sh, sh2, shi, dec, e0]
  refine (cnt120 s).mono ?_
  rintro _ g0 ⟨rfl, rfl⟩
  have hmin := min_i ((s.count 47 : Nat) + 1 : Int) ((s.length : Nat) + 1 : Int)
  have hmn : (if ((s.length : Nat) : Int) + 1 < ((s.count 47 : Nat) : Int) + 1 then ((s.length : Nat) : Int) + 1 else ((s.count 47 : Nat) : Int) + 1) = ((s.count 47 + 1 : Nat) : Int) := by
    split <;> omega
  have hmk := fun h => mk22 (n := s.count 47 + 1) (by omega) h
  simp only [hmn, i] at hmin hmk
  simp (disch := omega) only [i, sh, sh2, shi, dec, J94_3, b_len, l0, hmin, J94_4, hmk, J94_5, J94_6, J94_7]
  have S0 : Sep noF g0 (g0.alloc (.cells ((List.replicate (s.count 47 + 1) ([] : Str)).flatMap strE.f) .ex)) [Thing.vec strE (.slice g0.next 0 (s.count 47 + 1) (.ex (s.count 47 + 1))) (List.replicate (s.count 47 + 1) [])] := by
    have := (Sep.start noF g0).vec (E := strE) (l := List.replicate (s.count 47 + 1) ([] : Str)) (.slice g0.next 0 (s.count 47 + 1) (.ex (s.count 47 + 1))) (h' := g0.alloc (.cells ((List.replicate (s.count 47 + 1) ([] : Str)).flatMap strE.f) .ex)) ?_ ?_ ?_ (Fr.alloc _ _) ?_
    · exact this
    · refine Row.of (get_alloc_eq _ _) (by simp) ?_ ?_
      · rw [List.drop_zero, List.take_of_length_le (by rw [flat_len]; exact Nat.le_refl _)]
      · rw [flat_len]; omega
    · exact ⟨Nat.le_refl _, fun hh => by omega⟩
    · exact ⟨_, .ex, get_alloc_eq _ _, by decide⟩
    · intro x hx; cases hx; exact ⟨Nat.le_refl _, Nat.lt_succ_self _⟩
  generalize hn : s.count 47 = n0 at *
  generalize (g0.alloc (.cells ((List.replicate (n0 + 1) ([] : Str)).flatMap strE.f) .ex)) = g1 at *
  have tail : ∀ (rest : Str) (la : List Str) (k : Nat) (h : LHeap), (47 : UInt8) ∉ rest → k = n0 → la.length = n0 + 1 → la.take k ++ segs rest = segs s → Sep noF g0 h [Thing.vec strE (.slice g0.next 0 (n0 + 1) (.ex (n0 + 1))) la] →
      J94_8 (.str rest) (.slice g0.next 0 (n0 + 1) (.ex (n0 + 1))) (i (k : Int)) h fun v h => Fr noF g0 h ∧ Row h v strE (segs s) ∧ ∀ a, v.obj = some a → a < h.next := by
    intro rest la k h hr hk hla hsg Sp
    rw [segs_one hr] at hsg
    have hx : la[k]? = some la[k] := List.getElem?_eq_getElem (by omega)
    have ix := (Sp.row (E := strE) (l := la) 0 rfl).ix (k := .i64) (i := k) (by omega)
    obtain ⟨a, off, h2, e1, e2, S2, _, _⟩ := Sp.stf (E := strE) (l := la) 0 rfl (k := k) (j := 0) rest (v := .str rest) rfl hx (by decide) rfl
    have e3 : strE.e = 1 := rfl
    rw [e3] at ix e1
    rw [e1] at ix
    rw [Nat.add_zero] at e2
    have RS := S2.row (E := strE) (V := .slice g0.next 0 (n0 + 1) (.ex (n0 + 1))) (l := la.set k rest) 0 rfl
    have GS := S2.grow (E := strE) (V := .slice g0.next 0 (n0 + 1) (.ex (n0 + 1))) (l := la.set k rest) 0 rfl
    have el : la.set k rest = segs s := by
      rw [← hsg, List.set_eq_take_append_cons_drop, if_pos (by omega), List.drop_eq_nil_of_le (by omega)]
    obtain ⟨U, ec, RU, _, obU, _⟩ := RS.cut GS.capd (i := 0) (j := k + 1) (by omega) (by rw [List.length_set]; omega) none (some (k + 1 : Nat)) rfl rfl
    have ec := ((cut_t ty22 sz9 (by decide) (.slice g0.next 0 (n0 + 1) (.ex (n0 + 1))) (limL (.slice g0.next 0 (n0 + 1) (.ex (n0 + 1))) h2)).1 .i64 ((k + 1 : Nat) : Int)).trans ec
    rw [List.drop_zero, List.take_of_length_le (by rw [List.length_set]; omega), el] at RU
    have ck : ((k + 1 : Nat) : Int) = (k : Int) + 1 := by omega
    rw [ck] at ec
    simp only [i]
    simp (disch := omega) only [J94_8, i, sh, sh2, shi, dec, ix, e2, ec]
    exact ⟨S2.fr, RU, fun b hb => S2.lt (T := Thing.vec strE (.slice g0.next 0 (n0 + 1) (.ex (n0 + 1))) (la.set k rest)) 0 rfl (obU b hb)⟩
  refine loop_n (fun n (st : LV × LV) h => ∃ (k : Nat) (rest : Str) (la : List Str), st = (.str rest, i (k : Int)) ∧ k + n = n0 ∧ la.length = n0 + 1 ∧ rest.length ≤ 64 ∧ rest.count 47 = n ∧ la.take k ++ segs rest = segs s ∧ Sep noF g0 h [Thing.vec strE (.slice g0.next 0 (n0 + 1) (.ex (n0 + 1))) la]) (n := n0) ⟨0, s, List.replicate (n0 + 1) [], by simp, by omega, by simp, hs, hn, by simp, S0⟩ ?_
  rintro n st h ⟨k, rest, la, rfl, hk, hla, hrl, hcn, hsg, Sp⟩
  cases n with
  | zero =>
    have hr : (47 : UInt8) ∉ rest := List.count_eq_zero.1 hcn
    have := tail rest la k h hr (by omega) hla hsg Sp
    simp only [i] at this
    simp (disch := omega) only [L94_9, i, sh, sh2, shi, dec]
    exact this
  | succ n =>
    have hmem : (47 : UInt8) ∈ rest := List.count_pos_iff.1 (by omega)
    obtain ⟨p, q, rfl, hp⟩ := List.eq_append_cons_of_mem hmem
    have hix := idxB_at q 0 hp
    rw [Nat.zero_add] at hix
    have hpq : (p ++ 47 :: q).length = p.length + (q.length + 1) := by rw [List.length_append, List.length_cons]
    rw [segs_mid q hp] at hsg
    have cH := fun lim => cutHi (p ++ 47 :: q) (k := p.length) (by omega) lim
    have cL := fun lim => cutLo (p ++ 47 :: q) (k := p.length + 1) (by omega) lim
    have ck : ((p.length + 1 : Nat) : Int) = (p.length : Int) + 1 := by omega
    have tp : (p ++ 47 :: q).take p.length = p := by simp
    have tq : (p ++ 47 :: q).drop (p.length + 1) = q := by rw [← List.drop_drop]; simp
    rw [tp] at cH
    rw [tq, ck] at cL
    have hx : la[k]? = some la[k] := List.getElem?_eq_getElem (by omega)
    have ix := (Sp.row (E := strE) (l := la) 0 rfl).ix (k := .i64) (i := k) (by omega)
    obtain ⟨a, off, h2, e1, e2, S2, _, _⟩ := Sp.stf (E := strE) (l := la) 0 rfl (k := k) (j := 0) p (v := .str p) rfl hx (by decide) rfl
    have e3 : strE.e = 1 := rfl
    rw [e3] at ix e1
    rw [e1] at ix
    rw [Nat.add_zero] at e2
    have ap0 := add3 (a := (p.length : Int)) (b := 0) (by omega) (by omega)
    simp (disch := omega) only [L94_9, i, sh, sh2, shi, dec]
    refine (idx121 _).to ?_
    rw [hix]
    simp only [i, Int.add_zero] at ap0
    simp (disch := omega) only [i, sh, sh2, shi, dec, cH, ix, e2, b_len, l1, List.length_cons, List.length_nil, cL, Int.add_zero]
    refine ⟨n, by omega, k + 1, q, la.set k p, by simp, by omega, by simp [hla], by omega, ?_, ?_, S2⟩
    · rw [List.count_append, List.count_cons, List.count_eq_zero.2 hp] at hcn; simp at hcn; omega
    · rw [← hsg, List.set_eq_take_append_cons_drop, if_pos (by omega), List.take_append, List.take_of_length_le (by rw [List.length_take]; omega), List.length_take, Nat.min_eq_left (by omega)]
      have : k + 1 - k = 1 := by omega
      rw [this]; simp
def Answered (s : Str) (v : LV) (g h : LHeap) : Prop := Fr noF g h ∧ ((FineP s ∧ ∃ V, v = .tuple [V, .int .i64 0] ∧ Row h V strE (namesS s) ∧ ∀ b, V.obj = some b → b < h.next) ∨ (¬ FineP s ∧ v = .tuple [.nils, .int .i64 190]))
theorem head_at {s : Str} (h : s.head? = some 47) : s[0]? = some 47 := by rw [← List.head?_eq_getElem?]; exact h
set_option maxHeartbeats 1000000 in
/-- namec.Split. -/
theorem split11 (s : Str) (hm : s.length < 9223372036854775808) : Ok Tryd.prog 11 [.str s] g fun v h => Answered s v g h := by
  refine ok11 fun _ _ => ?_
  have l0 := slen s
  have bad : ∀ {h : LHeap}, Fr noF g h → ¬ FineP s → Answered s (.tuple [.nils, .int .i64 190]) g h := fun f hn => ⟨f, .inr ⟨hn, rfl⟩⟩
  by_cases h1 : s.length < 1
  · simp (disch := omega) only [F11, J11_0, i, sh, sh2, shi, dec, b_len, l0]
    exact bad (Fr.refl _ _) fun hf => by have := hf.1; omega
  by_cases h2 : 64 < s.length
  · simp (disch := omega) only [F11, J11_0, i, sh, sh2, shi, dec, b_len, l0]
    exact bad (Fr.refl _ _) fun hf => by have := hf.2.1; omega
  obtain ⟨b, hb⟩ : ∃ b, s[0]? = some b := ⟨_, List.getElem?_eq_getElem (by omega)⟩
  have ix0 := ixS hb
  have c0 : ((0 : Nat) : Int) = 0 := rfl
  rw [c0] at ix0
  by_cases h3 : (b.toNat : Int) = 47
  · have hb47 : b = 47 := by
      have : b.toNat = (47 : UInt8).toNat := by show b.toNat = 47; omega
      exact UInt8.toNat_inj.1 this
    subst hb47
    have hhd : s.head? = some 47 := by rw [List.head?_eq_getElem?]; exact hb
    simp (disch := omega) only [F11, J11_0, i, sh, sh2, shi, dec, b_len, l0, ix0]
    refine (idx53 s).mono ?_
    rintro _ g0 ⟨rfl, rfl⟩
    by_cases h4 : 0 ≤ idxB 0 s 0
    · simp (disch := omega) only [i, sh, sh2, shi, dec]
      exact bad (Fr.refl _ _) fun hf => hf.2.2.2.1 (idxB_ge.1 h4)
    · have h0 : (0 : UInt8) ∉ s := fun h => h4 (idxB_ge.2 h)
      simp (disch := omega) only [i, sh, sh2, shi, dec, J11_1, J11_2]
      refine ok54 fun _ _ => ?_
      simp only [F54]
      refine (split94 s (by omega)).mono ?_
      rintro V h5 ⟨f5, RV, ltV⟩
      have hlV := fun g' => RV.len (P := Tryd.prog) ty22 (g' := g')
      have hsl := segs_len s
      have hcl : s.count 47 ≤ s.length := List.count_le_length
      simp (disch := omega) only [i, sh, sh2, b_len, hlV, J11_4]
      refine loop_n (fun n (st : LV × LV) h => ∃ (k : Nat) (W : LV), st = (W, i (k : Int)) ∧ k + n = (segs s).length ∧ (∀ x ∈ (segs s).take k, x.length ≤ 14) ∧ Sep noF h5 h [Thing.vec strE W (((segs s).take k).filter nz)]) (n := (segs s).length) ⟨0, .nils, rfl, by omega, by simp, by simpa using (Sep.start noF h5).nils strE⟩ ?_
      rintro n st h ⟨k, W, rfl, hk, h14, Sp⟩
      cases n with
      | zero =>
        obtain rfl : k = (segs s).length := by omega
        rw [List.take_length] at h14 Sp
        have RW := Sp.row (E := strE) (V := W) (l := namesS s) 0 rfl
        have hlW := fun g' => RW.len (P := Tryd.prog) ty22 (g' := g')
        have hnl : (namesS s).length ≤ (segs s).length := List.length_filter_le _ _
        by_cases h32 : 32 < (namesS s).length
        · simp (disch := omega) only [L11_5, J11_3, i, sh, sh2, shi, dec, b_len, hlW]
          exact bad (f5.trans Sp.fr) fun hf => by have := hf.2.2.2.2.2; omega
        · simp (disch := omega) only [L11_5, J11_3, i, sh, sh2, shi, dec, b_len, hlW]
          exact ⟨f5.trans Sp.fr, .inl ⟨⟨by omega, by omega, hhd, h0, h14, by omega⟩, W, rfl, RW, fun b hb => Sp.lt (T := Thing.vec strE W ((segs s).filter nz)) 0 rfl hb⟩⟩
      | succ n =>
        obtain ⟨x, hx, _⟩ := drop_at (l := segs s) (k := k) (by omega)
        have RVh : Row h V strE (segs s) := RV.fr fun a ha => Sp.fr.eq a (ltV a ha) id
        have ix := RVh.ix (k := .i64) (i := k) (by omega)
        have ld := RVh.ld1 hx rfl rfl
        have e3 : strE.e = 1 := rfl
        rw [e3] at ix
        have lx := slen x
        have tk := take_snoc hx
        have hxl : x.length ≤ 64 := Nat.le_trans (segs_mem (List.mem_of_getElem? hx)) (by omega)
        by_cases hx14 : 14 < x.length
        · simp (disch := omega) only [L11_5, i, sh, sh2, shi, dec, ix, ld, b_len, lx]
          exact bad (f5.trans Sp.fr) fun hf => by have := hf.2.2.2.2.1 x (List.mem_of_getElem? hx); omega
        · have h14' : ∀ y ∈ (segs s).take (k + 1), y.length ≤ 14 := fun y hy => by
            rw [tk] at hy
            rcases List.mem_append.1 hy with hy | hy
            · exact h14 y hy
            · rw [List.mem_singleton] at hy; subst hy; omega
          have ne : binL Tryd.prog .neq 9 true (.str x) (.str []) = some (.bool !(x == [])) := rfl
          have fl : (((segs s).take k).filter nz).length ≤ k := Nat.le_trans (List.length_filter_le _ _) (by rw [List.length_take]; omega)
          by_cases hxe : x = []
          · subst hxe
            have ne : binL Tryd.prog .neq 9 true (.str []) (.str []) = some (.bool false) := ne
            simp (disch := omega) only [L11_5, i, sh, sh2, shi, dec, ix, ld, b_len, lx, ne]
            exact ⟨n, by omega, k + 1, W, by simp, by omega, h14', by rw [tk, List.filter_append]; have : ([[]] : List Str).filter nz = [] := rfl; rw [this, List.append_nil]; exact Sp⟩
          · have hb : (x == []) = false := by simpa using hxe
            rw [hb] at ne
            have ne : binL Tryd.prog .neq 9 true (.str x) (.str []) = some (.bool true) := ne
            obtain ⟨V', h', e, S4, c4, _⟩ := Sp.push (E := strE) (V := W) 0 rfl (bytes := 16) x (cs := [.str x]) rfl (by omega)
            have e : appendL 1 16 W _ _ = _ := e
            have bs := bs22_1 h x
            have ap := ap22 (V := W) (U := .slice h.next 0 1 (.ex 1)) rfl (h.alloc (.cells [.str x] .ex))
            rw [e] at ap
            simp (disch := omega) only [L11_5, i, sh, sh2, shi, dec, ix, ld, b_len, lx, ne, bs, ap]
            refine ⟨n, by omega, k + 1, V', by simp, by omega, h14', ?_⟩
            rw [tk, List.filter_append]
            rw [nz_one hxe]; exact S4
  · simp (disch := omega) only [F11, J11_0, i, sh, sh2, shi, dec, b_len, l0, ix0]
    exact bad (Fr.refl _ _) fun hf => h3 (by
      have := head_at hf.2.2.1
      rw [hb] at this; cases this; rfl)
end
end Go.Proofs.YthinkofjbabfbaaDoor
