/-
  tlb: New.
-/
import Derived.Test.YtgncgokjbakdmaaTl9
set_option linter.all false
namespace Go.Proofs.Ytgncgokjbakdmaa
open Go.ChangeShapes Go.WideShapes Go.ChangeAt Go.RowKit Go.Lm
set_option linter.unusedSimpArgs false
def hoV : Option Nat → LV
  | some m => .map m
  | none => .nilm
def hoE : Enc (Option Nat) := ⟨fun o => [hoV o, .nils], 2, fun _ => rfl, fun o v h => by
  simp only [List.mem_cons, List.not_mem_nil, or_false] at h
  rcases h with rfl | rfl
  · cases o <;> rfl
  · rfl, by decide⟩
def newT (a b : Int) : TSt := ⟨b, List.replicate a.toNat [], 0, fun _ => none, 0⟩
set_option maxRecDepth 10000 in
theorem mk90 : ∀ (n : Nat), 1 ≤ n → n ≤ 8 → ∀ h : LHeap, makeSliceL Try.prog 90 (.int .i64 n) (.int .i64 n) h = some (.slice h.next 0 n (.ex n), h.alloc (.cells ((List.replicate n (none : Option Nat)).flatMap hoE.f) .ex))
  | 1, _, _, h => by kernel_rfl
  | 2, _, _, h => by kernel_rfl
  | 3, _, _, h => by kernel_rfl
  | 4, _, _, h => by kernel_rfl
  | 5, _, _, h => by kernel_rfl
  | 6, _, _, h => by kernel_rfl
  | 7, _, _, h => by kernel_rfl
  | 8, _, _, h => by kernel_rfl
  | 0, h, _, _ => absurd h (by decide)
  | n + 9, _, h, _ => absurd h (by omega)
theorem bl93 (b : Int) (a n om : Nat) : buildL Try.prog 93 [(0, i b), (1, .slice a 0 n (.ex n)), (3, .map om)] = some (.agg [i b, .slice a 0 n (.ex n), i 0, .map om]) := nr (by kernel_rfl)
section
variable {F : Nat → Prop} {g h h' : LHeap} {t : Nat} {st : TSt} {S : Nat → Prop}
theorem newT_wf {a b : Int} (h1 : 1 ≤ a ∧ a ≤ 8) (h2 : 1 ≤ b ∧ b ≤ 64) : TWf (newT a b) :=
  ⟨h2.1, h2.2, by simp [newT]; omega, fun l hl => by
    have := (List.mem_replicate.1 hl).2
    subst this
    exact ⟨by simp, by simp [newT]; omega⟩, by simp [newT], by simp [newT], by simp [newT], fun id s hs => by simp [newT] at hs⟩
set_option maxRecDepth 10000 in
theorem New_ok (a b : Int) : Ok Try.prog 18 [i a, i b] g fun v h =>
    (¬ ((1 ≤ a ∧ a ≤ 8) ∧ 1 ≤ b ∧ b ≤ 64) ∧ v = .tuple [.nilp, i 1] ∧ Fr noF g h) ∨
    (((1 ≤ a ∧ a ≤ 8) ∧ 1 ≤ b ∧ b ≤ 64) ∧ ∃ t S, v = .tuple [.ptr t 0, i 0] ∧ (TBox t S (newT a b)).ok h ∧ Fr noF g h ∧ ∀ x, S x → g.next ≤ x ∧ x < h.next) := by
  refine ok18 fun wf _ => ?_
  by_cases h1 : 1 ≤ a
  rotate_left
  · simp (disch := omega) only [F18, J18_0, i, sh, sh2, shi, dec]
    exact .inl ⟨by omega, trivial, Fr.refl _ _⟩
  by_cases h2 : a ≤ 8
  rotate_left
  · simp (disch := omega) only [F18, J18_0, i, sh, sh2, shi, dec]
    exact .inl ⟨by omega, trivial, Fr.refl _ _⟩
  by_cases h3 : 1 ≤ b
  rotate_left
  · simp (disch := omega) only [F18, J18_0, i, sh, sh2, shi, dec]
    exact .inl ⟨by omega, trivial, Fr.refl _ _⟩
  by_cases h4 : b ≤ 64
  rotate_left
  · simp (disch := omega) only [F18, J18_0, i, sh, sh2, shi, dec]
    exact .inl ⟨by omega, trivial, Fr.refl _ _⟩
  obtain ⟨n, rfl⟩ := Int.eq_ofNat_of_zero_le (show 0 ≤ a by omega)
  have hmk := mk90 n (by omega) (by omega) g
  have S1 : Sep noF g (g.alloc (.cells ((List.replicate n (none : Option Nat)).flatMap hoE.f) .ex)) [Thing.vec hoE (.slice g.next 0 n (.ex n)) (List.replicate n none)] := by
    have := (Sep.start noF g).vec (E := hoE) (l := List.replicate n (none : Option Nat)) (.slice g.next 0 n (.ex n)) (h' := g.alloc (.cells ((List.replicate n (none : Option Nat)).flatMap hoE.f) .ex)) ?_ ?_ ?_ (Fr.alloc _ _) ?_
    · exact this
    · refine Row.of (get_alloc_eq _ _) (by simp) ?_ ?_
      · rw [List.drop_zero, List.take_of_length_le (by rw [flat_len]; exact Nat.le_refl _)]
      · rw [flat_len]; omega
    · exact ⟨Nat.le_refl _, fun hh => by omega⟩
    · exact ⟨_, .ex, get_alloc_eq _ _, by decide⟩
    · intro x hx; cases hx; exact ⟨Nat.le_refl _, Nat.lt_succ_self _⟩
  have S2 := S1.newMap intK.k
  have S3 := S2.new [i b, .slice g.next 0 n (.ex n), i 0, .map (g.next + 1)]
  have x3 := S3.cell 2 rfl
  have hl3 := (S3.row (V := .slice g.next 0 n (.ex n)) 0 rfl).len (P := Try.prog) ty90
  rw [List.length_replicate] at hl3
  simp (disch := omega) only [F18, J18_0, J18_1, J18_2, J18_4, i, sh, sh2, shc, shi, dec, hmk, bl93, b_len, LHeap.next_alloc]
  simp only [LHeap.next_alloc, i] at x3 S3
  simp (disch := omega) only [x3, i, sh, sh2, shc, hl3]
  refine loop_n (fun nn s h => ∃ (k : Nat) (ms : List Nat), s = i (k : Int) ∧ k + nn = n ∧ ms.length = k ∧ Sep noF g h ([Thing.vec hoE (.slice g.next 0 n (.ex n)) (ms.map some ++ List.replicate nn none), Thing.map (g.next + 1) intK.k (fun _ => none) 0, Thing.cells (g.next + 2) [i b, .slice g.next 0 n (.ex n), i 0, .map (g.next + 1)]] ++ ms.map fun m => Thing.map m keyK.k (fun _ => none) 0)) (n := n)
    ⟨0, [], rfl, by omega, rfl, by simpa using S3⟩ ?_
  rintro nn s h ⟨k, ms, rfl, hk, hm, S⟩
  cases nn with
  | zero =>
    simp (disch := omega) only [L18_5, J18_3, i, sh, sh2, shi, dec]
    refine .inr ⟨⟨⟨h1, h2⟩, h3, h4⟩, g.next + 2, ?_⟩
    have hSn : ms.length = n := by omega
    have SH : Sep noF g h ([Thing.vec hdE (.slice g.next 0 n (.ex n)) (ms.map fun m => ((m, .nils) : Nat × LV)), Thing.map (g.next + 1) intK.k (fun _ => none) 0, Thing.cells (g.next + 2) [i b, .slice g.next 0 n (.ex n), i 0, .map (g.next + 1)]] ++ ms.map fun m => Thing.map m keyK.k (fun _ => none) 0) := by
      obtain ⟨R, G, M⟩ := S.at (T := Thing.vec hoE (.slice g.next 0 n (.ex n)) (ms.map some ++ List.replicate 0 none)) 0 rfl
      refine S.put 0 rfl (Thing.vec hdE (.slice g.next 0 n (.ex n)) (ms.map fun m => ((m, .nils) : Nat × LV))) (Fr.refl _ _) ⟨R.conv rfl ?_ (by simp), G, M⟩ fun x hx => ⟨.inl hx, S.lt (T := Thing.vec hoE (.slice g.next 0 n (.ex n)) (ms.map some ++ List.replicate 0 none)) 0 rfl hx⟩
      simp only [List.replicate_zero, List.append_nil]
      have key : ∀ ms : List Nat, (ms.map fun m => ((m, .nils) : Nat × LV)).flatMap hdE.f = (ms.map some).flatMap hoE.f := by
        intro ms
        induction ms with
        | nil => rfl
        | cons m ms ih => rw [List.map_cons, List.map_cons, List.flatMap_cons, List.flatMap_cons, ih]; rfl
      exact key ms
    have S5 := Sep.nilsL keyE ms SH
    let hs : List HX := ms.map fun m => ⟨m, .nils, [], fun _ => none, 0⟩
    have hperm : Sep noF g h (TlTs (g.next + 2) b (.slice g.next 0 n (.ex n)) 0 (g.next + 1) (fun id => ((newT n b).opn id).map shV) 0 hs) := by
      have p := S5.perm (Us := TlTs (g.next + 2) b (.slice g.next 0 n (.ex n)) 0 (g.next + 1) (fun id => ((newT n b).opn id).map shV) 0 hs) (by
        simp only [TlTs, hs, List.map_map, List.append_assoc]
        exact List.Perm.append_right _ (List.perm_append_comm (l₁ := [Thing.vec hdE (.slice g.next 0 n (.ex n)) (ms.map fun m => ((m, .nils) : Nat × LV)), Thing.map (g.next + 1) intK.k (fun _ => none) 0]) (l₂ := [Thing.cells (g.next + 2) [i b, .slice g.next 0 n (.ex n), i 0, .map (g.next + 1)]])))
      exact p
    have A := hperm.after (D := TD (g.next + 2)) (x := newT n b) ⟨_, _, hs, rfl, ?_, newT_wf ⟨h1, h2⟩ ⟨h3, h4⟩⟩
    · obtain ⟨S', B, f, nw⟩ := A
      exact ⟨S', rfl, B, f, fun x hx => ⟨(nw x hx).1.resolve_left id, (nw x hx).2⟩⟩
    · have : ∀ (ms : List Nat) (hs : List HX), hs = ms.map (fun m => ⟨m, .nils, [], fun _ => none, 0⟩) → All2 HXok hs (List.replicate ms.length []) := by
        intro ms
        induction ms with
        | nil => intro hs h; subst h; trivial
        | cons m ms ih => intro hs h; subst h; exact ⟨⟨rfl, rfl⟩, ih _ rfl⟩
      have := this ms hs rfl
      rw [hSn] at this
      exact this
  | succ nn =>
    have x2 := S.cell 2 rfl
    have hln : ms.length < (ms.map some ++ List.replicate (nn + 1) (none : Option Nat)).length := by simp only [List.length_append, List.length_map, List.length_replicate]; omega
    have hat : (ms.map some ++ List.replicate (nn + 1) (none : Option Nat))[k]? = some none := by
      rw [List.getElem?_append_right (by simp; omega)]
      simp [hm]
    have S1 := S.newMap keyK.k
    have hix := (S1.row (E := hoE) (V := .slice g.next 0 n (.ex n)) (l := ms.map some ++ List.replicate (nn + 1) none) 0 rfl).ix (k := .i64) (i := k) (by omega)
    obtain ⟨pa, po, h2, hp, est, S2, _, _⟩ := S1.stf (E := hoE) (V := .slice g.next 0 n (.ex n)) (l := ms.map some ++ List.replicate (nn + 1) none) 0 rfl (k := k) (j := 0) (some h.next) (v := .map h.next) rfl hat (by decide) rfl
    have e2 : hoE.e = 2 := rfl
    rw [e2] at hix hp
    rw [hp] at hix
    rw [Nat.add_zero] at est
    simp (disch := omega) only [L18_5, i, sh, sh2, shi, dec, x2, hix, est]
    refine ⟨nn, by omega, k + 1, ms ++ [h.next], by simp, by omega, by simp; omega, ?_⟩
    have e : (ms.map some ++ List.replicate (nn + 1) (none : Option Nat)).set k (some h.next) = (ms ++ [h.next]).map some ++ List.replicate nn none := by
      rw [List.set_append_right _ _ (by simp; omega)]
      simp [hm, List.replicate_succ]
    rw [e] at S2
    simpa using S2
end
end Go.Proofs.Ytgncgokjbakdmaa
