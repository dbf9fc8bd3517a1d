/-
  frame: New.
-/
import Derived.Test.YtoajcekgoalhjaaFrE
set_option linter.all false
namespace Go.Proofs.Ytoajcekgoalhjaa
open Go.ChangeShapes Go.WideShapes Go.ChangeAt Go.RowKit Go.Lm
set_option linter.unusedSimpArgs false
set_option linter.unusedVariables false
set_option maxRecDepth 10000
def zeroAll (bs : List Int) (first : Int) (n : Nat) : List Int := (List.range n).foldl (fun bs k => zeroF bs (first + (k : Nat))) bs
theorem zeroAll_succ (bs : List Int) (first : Int) (n : Nat) : zeroAll bs first (n + 1) = zeroF (zeroAll bs first n) (first + n) := by simp [zeroAll, List.range_succ]
theorem zeroAll_len (bs : List Int) (first : Int) : ∀ n, (zeroAll bs first n).length = bs.length
  | 0 => rfl
  | n + 1 => by rw [zeroAll_succ, zeroF_len, zeroAll_len bs first n]
theorem frameIn_len {bs bs' : List Int} (h : bs'.length = bs.length) (y : Int) : frameIn bs' y ↔ frameIn bs y := by unfold frameIn; rw [h]
theorem zeroAll_at {bs : List Int} {first : Int} (f0 : 0 ≤ first) : ∀ n : Nat, first + (n : Int) ≤ ((bs.length / 256 : Nat) : Int) → ∀ y, first ≤ y → y < first + n → frameB (zeroAll bs first n) y = zerosB 256
  | 0, _, y, h1, h2 => by omega
  | n + 1, hn, y, h1, h2 => by
    have hl := zeroAll_len bs first n
    rw [zeroAll_succ]
    have hin : ∀ z, first ≤ z → z < first + (n + 1 : Nat) → frameIn (zeroAll bs first n) z := fun z k1 k2 => (frameIn_len hl z).2 ⟨by omega, by omega⟩
    by_cases e : y = first + n
    · subst e; exact frameB_zeroed (hin _ (by omega) (by omega))
    · rw [frameB_zero (hin _ (by omega) (by omega)) (hin y h1 h2) e]
      exact zeroAll_at f0 n (by omega) y h1 (by omega)
def riseL (first : Int) (n : Nat) : List Int := (List.range n).map fun k => first + (k : Nat)
theorem riseL_succ (first : Int) (n : Nat) : riseL first (n + 1) = riseL first n ++ [first + n] := by simp [riseL, List.range_succ]
theorem riseL_mem (first : Int) (n : Nat) (y : Int) : y ∈ riseL first n ↔ first ≤ y ∧ y < first + n := by
  unfold riseL
  rw [List.mem_map]
  constructor
  · rintro ⟨k, hk, rfl⟩
    rw [List.mem_range] at hk
    omega
  · intro ⟨h1, h2⟩
    exact ⟨(y - first).toNat, List.mem_range.2 (by omega), by omega⟩
theorem riseL_pw (first : Int) : ∀ n, (riseL first n).Pairwise (· < ·)
  | 0 => List.Pairwise.nil
  | n + 1 => by
    rw [riseL_succ, List.pairwise_append]
    refine ⟨riseL_pw first n, List.pairwise_singleton _ _, fun y hy z hz => ?_⟩
    rw [riseL_mem] at hy
    rw [List.mem_singleton.1 hz]; omega
def newS (first : Int) (n harts : Nat) (bs : List Int) : FSt := ⟨first, harts, List.replicate n 0, List.replicate 8 [], riseL first n, zeroAll bs first n⟩
theorem used_rep : ∀ n, usedL (List.replicate n 0) = 0
  | 0 => rfl
  | n + 1 => by have := used_rep n; simpa [List.replicate_succ, usedL] using this
theorem new_wf {first : Int} {n harts : Nat} {bs : List Int} (h1 : 1 ≤ harts) (h8 : harts ≤ 8) (n1 : 1 ≤ n) (f0 : 0 ≤ first) (fit : first + n ≤ ((bs.length / 256 : Nat) : Int)) (b1 : bs.length ≤ 1048576) (b2 : 256 ≤ bs.length) (b3 : bs.length % 256 = 0) : FWf (newS first n harts bs) := by
  have hl := zeroAll_len bs first n
  have hall : (newS first n harts bs).all = riseL first n := by unfold FSt.all newS; simp
  have hin : ∀ y, (newS first n harts bs).inR y ↔ first ≤ y ∧ y < first + n := fun y => by unfold FSt.inR newS; simp
  have hc : ∀ y, (newS first n harts bs).cnt y = 0 := fun y => by
    unfold FSt.cnt
    split
    · show (((List.replicate n (0 : Int)))[_]?).getD 0 = 0
      rw [List.getElem?_replicate]
      split <;> rfl
    · rfl
  refine ⟨h1, h8, by simp [newS], fun k _ hk8 => ?_, f0, by simpa [newS] using n1, ?_, ?_, ?_, ?_, fun c hc => ?_, fun y => ?_, ?_, ?_, fun y hy => ?_⟩
  · show (List.replicate 8 ([] : List Int))[k]? = _
    rw [List.getElem?_replicate, if_pos hk8]
  · show (zeroAll bs first n).length ≤ _; rw [hl]; exact b1
  · show _ ≤ (zeroAll bs first n).length; rw [hl]; exact b2
  · show (zeroAll bs first n).length % 256 = 0; rw [hl]; exact b3
  · show first + ((List.replicate n (0 : Int)).length : Int) ≤ (((zeroAll bs first n).length / 256 : Nat) : Int)
    rw [hl, List.length_replicate]; exact fit
  · have : c ∈ List.replicate n (0 : Int) := hc
    rw [(List.mem_replicate.1 this).2]; omega
  · rw [hall]
    have nd : (riseL first n).Nodup := (riseL_pw first n).imp fun h e => by omega
    by_cases h : first ≤ y ∧ y < first + n
    · rw [if_pos ⟨(hin y).2 h, hc y⟩]
      have hm := (riseL_mem first n y).2 h
      have h2 := List.count_pos_iff.2 hm
      have h3 := List.nodup_iff_count.1 nd y
      omega
    · rw [if_neg fun k => h ((hin y).1 k.1)]
      exact List.count_eq_zero_of_not_mem fun k => h ((riseL_mem first n y).1 k)
  · show (riseL first n).length + (List.replicate 8 ([] : List Int)).flatten.length + usedL (List.replicate n 0) = (List.replicate n (0 : Int)).length
    rw [used_rep]
    simp [riseL]
  · exact (riseL_pw first n).imp fun h => by simp; omega
  · rw [hall, riseL_mem] at hy
    exact zeroAll_at f0 n fit y hy.1 hy.2
def newOk (frames first count harts : Int) : Prop := 1 ≤ harts ∧ harts ≤ 8 ∧ 1 ≤ count ∧ 0 ≤ first ∧ first + count ≤ frames
section
variable {F : Nat → Prop} {g h h' : LHeap} {x m a k c : Nat} {cs : List LV} {CV CC : LV} {counts common bs bs' : List Int} {rs : List FX} {r : FX} {Zs : List Thing} {st : FSt} {S : Nat → Prop} {Ls : List LV} {V U : LV} {l l2 : List Int}
theorem frNew_nil (first count harts : Int) : Ok Try.prog 21 [.nilp, i first, i count, i harts] g fun v h => v = .tuple [.nilp, i 1] ∧ h = g := by
  refine ok21 fun _ _ => ?_
  simp (disch := omega) only [F21, J21_0, i, sh, sh2, nil_p ph_tp true]
  exact ⟨trivial, trivial⟩
theorem frNew_no (M : MemAt g m a bs) {first count harts : Int} (f1 : first < 9223372036854775808) (c1 : count < 9223372036854775808) (hn : ¬ newOk ((bs.length / 256 : Nat) : Int) first count harts) : Ok Try.prog 21 [.ptr m 0, i first, i count, i harts] g fun v h => v = .tuple [.nilp, i 1] ∧ h = g := by
  refine ok21 fun _ _ => ?_
  have le := M.le
  unfold newOk at hn
  by_cases h1 : harts < 1
  · simp (disch := omega) only [F21, J21_0, i, sh, sh2, shi, dec, nil_p ph_tp true]
    exact ⟨trivial, trivial⟩
  by_cases h2 : 8 < harts
  · simp (disch := omega) only [F21, J21_0, i, sh, sh2, shi, dec, nil_p ph_tp true]
    exact ⟨trivial, trivial⟩
  by_cases h3 : count < 1
  · simp (disch := omega) only [F21, J21_0, i, sh, sh2, shi, dec, nil_p ph_tp true]
    exact ⟨trivial, trivial⟩
  by_cases h4 : first < 0
  · simp (disch := omega) only [F21, J21_0, i, sh, sh2, shi, dec, nil_p ph_tp true]
    exact ⟨trivial, trivial⟩
  simp (disch := omega) only [F21, J21_0, i, sh, sh2, shi, dec, nil_p ph_tp true]
  refine (Frames_ok M).mono ?_
  rintro _ g ⟨rfl, rfl⟩
  by_cases h5 : ((bs.length / 256 : Nat) : Int) < first
  · simp (disch := omega) only [i, sh, sh2, shi, dec]
    exact ⟨trivial, trivial⟩
  simp (disch := omega) only [i, sh, sh2, shi, dec]
  refine (Frames_ok M).mono ?_
  rintro _ g ⟨rfl, rfl⟩
  simp (disch := omega) only [i, sh, sh2, shi, dec]
  exact ⟨trivial, trivial⟩
theorem bl62 (m n : Nat) (first : Int) (harts : Int) (b : Nat) : buildL Try.prog 62 [(0, .ptr m 0), (1, i first), (2, i harts), (3, .slice b 0 n (.ex n))] = some (.agg [.ptr m 0, i first, i harts, .slice b 0 n (.ex n), .nils, .nils, .nils, .nils, .nils, .nils, .nils, .nils, .nils]) := nr (by kernel_rfl)
theorem perm5 {A : Type} (a m v x c : A) : [a, m, v, x, c].Perm [x, v, c, m, a] := by
  have h1 : [a, m, v, x, c].Perm [c, x, v, m, a] := (List.reverse_perm [a, m, v, x, c]).symm
  have h2 : [c, x, v, m, a].Perm [x, c, v, m, a] := List.Perm.swap _ _ _
  exact (h1.trans h2).trans (.cons x (List.Perm.swap _ _ _))
theorem frNew_ok {n harts : Nat} {first : Int} (Sp : Sep F g g (memTs m a bs)) (b1 : bs.length ≤ 1048576) (b2 : 256 ≤ bs.length) (b3 : bs.length % 256 = 0) (hn : newOk ((bs.length / 256 : Nat) : Int) first n harts) :
    Ok Try.prog 21 [.ptr m 0, i first, i n, i harts] g fun v h => ∃ x S', v = .tuple [.ptr x 0, i 0] ∧ Sep F g h [FBox x m S' (newS first n harts bs)] := by
  have M : MemAt g m a bs := ⟨Sp.cell 1 rfl, Sp.cell 0 rfl, b1, b2, b3⟩
  obtain ⟨k1, k2, k3, k4, k5⟩ := hn
  refine ok21 fun _ _ => ?_
  simp (disch := omega) only [F21, J21_0, i, sh, sh2, shi, dec, nil_p ph_tp true]
  refine (Frames_ok M).mono ?_
  rintro _ g ⟨rfl, rfl⟩
  simp (disch := omega) only [i, sh, sh2, shi, dec]
  refine (Frames_ok M).mono ?_
  rintro _ g ⟨rfl, rfl⟩
  have hmk := mk50 (n := n) (by omega) g
  simp only [i] at hmk
  have S1 := Sep.zeros Sp n
  have hb := bl62 m n first harts g.next
  simp only [i] at hb
  generalize e1 : g.alloc (.cells ((List.replicate n (0 : Int)).flatMap intE.f) .ex) = h1 at *
  have hnw : newL (.agg [.ptr m 0, .int .i64 first, .int .i64 harts, .slice g.next 0 n (.ex n), .nils, .nils, .nils, .nils, .nils, .nils, .nils, .nils, .nils]) h1 = some (.ptr h1.next 0, h1.alloc (.cells [.ptr m 0, i first, i harts, .slice g.next 0 n (.ex n), .nils, .nils, .nils, .nils, .nils, .nils, .nils, .nils, .nils] .ex)) := new_agg _ _ (by intro v hv; simp at hv; rcases hv with rfl | rfl | rfl | rfl | rfl <;> rfl)
  have S2 := S1.new [.ptr m 0, i first, i harts, .slice g.next 0 n (.ex n), .nils, .nils, .nils, .nils, .nils, .nils, .nils, .nils, .nils]
  generalize hx : h1.next = x at *
  generalize e2 : h1.alloc (.cells [.ptr m 0, i first, i harts, .slice g.next 0 n (.ex n), .nils, .nils, .nils, .nils, .nils, .nils, .nils, .nils, .nils] .ex) = h2 at *
  generalize hCV : LV.slice g.next 0 n (.ex n) = CV at *
  have S3 := Sep.nilsL (F := F) intE (List.replicate 8 ()) (S2.nils intE)
  have S4 : Sep F g h2 (FrT x m a first harts CV (List.replicate n 0) .nils (riseL first 0) (zeroAll bs first 0) (List.replicate 8 ⟨.nils, []⟩)) :=
    S3.perm ((perm5 _ _ _ _ _).append_right _)
  simp (disch := omega) only [i, sh, sh2, shi, dec, hmk, J21_1, J21_2, J21_4, hb, hnw]
  refine loop_n (fun nn s h => ∃ (k : Nat) (CC : LV), s = i (first + (k : Nat)) ∧ k + nn = n ∧ Sep F g h (FrT x m a first harts CV (List.replicate n 0) CC (riseL first k) (zeroAll bs first k) (List.replicate 8 ⟨.nils, []⟩))) (n := n) ⟨0, .nils, by simp, by omega, S4⟩ ?_
  rintro nn s h ⟨k, CC, rfl, hk, Sk⟩
  have hcl : (riseL first k).length = k := by simp [riseL]
  cases nn with
  | zero =>
    obtain rfl : k = n := by omega
    simp (disch := omega) only [L21_5, J21_3, i, sh, sh2, shi, dec]
    obtain ⟨S', Sb⟩ := Sep.boxed (Ts := []) (D := FD x m) (x := newS first k harts bs) Sk ⟨a, CV, CC, List.replicate 8 ⟨.nils, []⟩, rfl, by simp [newS], new_wf (by omega) (by omega) (by omega) k4 k5 b1 b2 b3⟩
    exact ⟨x, S', rfl, Sb⟩
  | succ nn =>
    have h8 : (List.replicate 8 (⟨.nils, []⟩ : FX)).length = 8 := by simp
    rw [← List.append_nil (FrT x m a first harts CV (List.replicate n 0) CC (riseL first k) (zeroAll bs first k) (List.replicate 8 ⟨.nils, []⟩))] at Sk
    have C := fr_fc Sk h8
    have c12 := C.c12
    obtain ⟨V', h5, happ, S5, cV⟩ := fr_pushc Sk (first + (k : Nat)) (by omega)
    have hbs := bs50_1 (first + (k : Nat)) h
    simp only [i] at hbs
    obtain ⟨h6, hst, S6⟩ := fr_stc S5 (by simp) (V := V') cV
    have hl := zeroAll_len bs first k
    simp (disch := omega) only [L21_5, i, sh, sh2, shi, dec, c12, hbs, happ, hst]
    refine (zero_ok (fr_m S6 (by rw [hl]; exact b1) (by rw [hl]; exact b2) (by rw [hl]; exact b3)) (first + (k : Nat))).mono ?_
    rintro _ h7 ⟨rfl, M7⟩
    have S7 := fr_mem S6 M7 (zeroF_len _ _)
    refine ⟨nn, by omega, k + 1, V', ?_, by omega, ?_⟩
    · simp only [LV.int.injEq, true_and]; omega
    · rw [riseL_succ, zeroAll_succ]
      rw [List.append_nil] at S7
      exact S7
end
end Go.Proofs.Ytoajcekgoalhjaa
