/-
  tlb in the heap: keys, maps.DeleteFunc.
-/
import Derived.Test.YtgncgokjbakdmaaTl1
set_option linter.all false
namespace Go.Proofs.Ytgncgokjbakdmaa
open Go.ChangeShapes Go.WideShapes Go.ChangeAt Go.RowKit Go.Lm
set_option linter.unusedSimpArgs false
theorem int_eq (d : Nat) (a b : Int) : eqTy Try.prog (d + 1) 3 (i a) (i b) = some (a == b) := by simp only [eqTy, u3, if_true]
set_option maxRecDepth 1000000 in
theorem key_step (d : Nat) (a b a' b' : Int) : eqTy Try.prog (d + 4) 41 (.agg [i a, i b]) (.agg [i a', i b']) =
  (match eqTy Try.prog (d + 2) 3 (i a) (i a') with
   | some true => (match eqTy Try.prog (d + 1) 3 (i b) (i b') with
     | some true => some true
     | some false => some false
     | none => none)
   | some false => some false
   | none => none) := by kernel_rfl
theorem key_ty (x y : AKey) : eqTy Try.prog 60 41 (.agg (keyE.f x)) (.agg (keyE.f y)) = some (decide (x = y)) := by
  obtain ⟨a, b⟩ := x
  obtain ⟨a', b'⟩ := y
  show eqTy Try.prog (56 + 4) 41 (.agg [i a, i b]) (.agg [i a', i b']) = _
  rw [key_step 56, int_eq, int_eq]
  have e1 : (a == a') = decide (a = a') := rfl
  have e2 : (b == b') = decide (b = b') := rfl
  rw [e1, e2]
  by_cases h1 : a = a' <;> by_cases h2 : b = b' <;> simp [h1, h2]
theorem key_eql (x y : AKey) : eqL Try.prog 41 false (.agg (keyE.f x)) (.agg (keyE.f y)) = some (decide (x = y)) := by
  have h : eqL Try.prog 41 false (.agg (keyE.f x)) (.agg (keyE.f y)) = (if Try.prog.eqGuardType Try.prog.depth 41 then none else eqTy Try.prog 60 41 (.agg (keyE.f x)) (.agg (keyE.f y))) := rfl
  rw [h, if_neg (by rw [show Try.prog.eqGuardType Try.prog.depth 41 = false from by kernel_rfl]; decide)]
  exact key_ty x y
theorem key_eq (x y : AKey) : binL Try.prog .eql 41 false (.agg (keyE.f x)) (.agg (keyE.f y)) = (if x = y then some (.bool true) else some (.bool false)) := by
  have h : binL Try.prog .eql 41 false (.agg (keyE.f x)) (.agg (keyE.f y)) = (eqL Try.prog 41 false (.agg (keyE.f x)) (.agg (keyE.f y))).map .bool := rfl
  rw [h, key_eql]
  by_cases e : x = y <;> simp [e]
theorem key_ne (x y : AKey) : binL Try.prog .neq 41 false (.agg (keyE.f x)) (.agg (keyE.f y)) = (if x = y then some (.bool false) else some (.bool true)) := by
  have h : binL Try.prog .neq 41 false (.agg (keyE.f x)) (.agg (keyE.f y)) = (eqL Try.prog 41 false (.agg (keyE.f x)) (.agg (keyE.f y))).map fun b => .bool !b := rfl
  rw [h, key_eql]
  by_cases e : x = y <;> simp [e]
def keyK : Key Try.prog 41 AKey := ⟨fun c => .agg (keyE.f c), fun a b => ⟨_, key_ty a b, by simp⟩, fun a => by
  obtain ⟨a, b⟩ := a
  show checkKeyL Try.prog 60 41 (.agg [i a, i b]) = true
  kernel_rfl, fun a => by
  obtain ⟨a, b⟩ := a
  show sameL (.agg [i a, i b]) (.agg [i a, i b]) = true
  simp [sameL, sames, same1]⟩
def intK : Key Try.prog 3 Int := ⟨fun n => i n, fun a b => ⟨_, int_eq 59 a b, by simp⟩, fun a => by kernel_rfl, fun a => by simp [sameL, same1]⟩
theorem ty94 : Try.prog.underlying 94 = some (.map 41 42) := by kernel_rfl
theorem ty91 : Try.prog.underlying 91 = some (.map 3 101) := by kernel_rfl
theorem ty36 : Try.prog.underlying 36 = some (.pointer 93) := by kernel_rfl
theorem ty90 : Try.prog.underlying 90 = some (.slice 96) := by kernel_rfl
theorem zr42 : zeroL Try.prog 42 = some (.int .u32 0) := by kernel_rfl
theorem zr101 : zeroL Try.prog 101 = some (.agg [i 0, .bool false, .bool false, .bool false, .bool false, .bool false, .bool false, .bool false, .bool false]) := by kernel_rfl
theorem keyC (a b : Int) : cellO (some 2) 0 (some (.cells [i a, i b] .ex)) = some (.agg [i a, i b]) := rfl
theorem key_o (k : AKey) : cellO (some 2) 0 (some (.cells (keyE.f k) .ex)) = some (.agg (keyE.f k)) := rfl
theorem new_key (h : LHeap) (k : AKey) : newL (.agg (keyE.f k)) h = some (.ptr h.next 0, h.alloc (.cells (keyE.f k) .ex)) := new_agg _ _ (keyE.cell k)
theorem keyK_f (k : AKey) : keyK.k k = .agg (keyE.f k) := rfl
set_option maxRecDepth 4000 in
/-- maps.DeleteFunc: those stay that the function does not take. -/
theorem mapsDelete73_ok {F : Nat → Prop} {g h : LHeap} {Ts : List Thing} {m n : Nat} {mp : AKey → Option LV} {Fv : LV} {p : AKey → Bool} (S : Sep F g h Ts) (b : Nat) (hb : Ts[b]? = some (Thing.map m keyK.k mp n))
    (hF : ∀ h1 k v K, Fr (fun a => a = m) h h1 → (∀ h2, Fr noF h1 h2 → K (.bool (p k)) h2) → callV Try.prog (Ok Try.prog) Fv [.agg (keyE.f k), v] h1 K) :
    Ok Try.prog 73 [.map m, Fv] h fun v h' => v = .tuple [] ∧ ∃ n', Sep F g h' (Ts.set b (Thing.map m keyK.k (fun k => if p k = true then none else mp k) n')) ∧ Fr (fun a => a = m) h h' := by
  refine ok73 fun wf lt => ?_
  obtain ⟨o, left, e0, S0, nd, hl, hdom⟩ := S.range b hb ty94
  simp (disch := omega) only [F73, J73_0, sh, e0]
  refine loop_n (fun nn s h1 => ∃ (left : List AKey) (n' : Nat), nn = left.length ∧ left.Nodup ∧ (∀ k ∈ left, (mp k).isSome = true) ∧ Fr (fun a => a = m) h h1 ∧ Sep F g h1 (Ts.set b (Thing.mapIt m h.next keyK.k (fun k => if k ∉ left ∧ p k = true then none else mp k) n' left))) (n := left.length)
    ⟨left, n, rfl, nd, fun k hk => (hdom k).1 hk, (Fr.alloc h o).mono fun _ _ => False.elim, ?_⟩ ?_
  · have : (fun k => if k ∉ left ∧ p k = true then none else mp k) = mp := by
      funext k
      by_cases hk : k ∈ left
      · simp [hk]
      · have : mp k = none := by
          cases hmk : mp k with
          | none => rfl
          | some v => exact absurd ((hdom k).2 (by rw [hmk]; rfl)) hk
        simp [this]
    rw [this]
    exact S0
  rintro nn s h1 ⟨left, n', rfl, nd, hdm, fr, S1⟩
  simp only [L73_1]
  refine S1.next (κ := AKey) (m := m) (r := h.next) (f := keyK.k) (n := n') (left := left) b (set_at hb) (fun he => ?_) fun k v left' h2 h3 h4 h5 h6 h7 S2 hen hn2 f2 => ?_
  · subst he
    simp (disch := omega) only [sh, sh2]
    refine ⟨trivial, n', ?_, fr⟩
    have S2 := (S1.ranged b (set_at hb)).set2
    simpa using S2
  · have S2 := S2.set2
    have nd' := h7 nd
    have hk' : k ∉ left' := fun hk => ((h6 k).1 hk).2 rfl
    have f12 : Fr (fun a => a = m) h h2 := fr.trans' f2 fun a ha e => by
      subst e
      omega
    have hmk : mp k = some v := by simpa [h3] using h4
    obtain ⟨N, hn1, hn3⟩ := new_st71 h2 k
    have S3 := S2.new (keyE.f k)
    have f13 : Fr (fun a => a = m) h (h2.alloc (.cells (keyE.f k) .ex)) := f12.alloc' _
    simp (disch := omega) only [sh, sh2, hen, hn1, hn3, key_o, keyK_f]
    refine hF _ k v _ f13 fun h4' f4 => ?_
    have S4 := S3.pure f4
    have f14 := f13.trans (f4.mono fun _ _ => False.elim)
    have x4 : h4'.get h2.next = some (.cells (keyE.f k) .ex) := (f4.eq _ (by simp) id).trans (get_alloc_eq _ _)
    have S4 := S4.init
    cases hp : p k with
    | true =>
      obtain ⟨H, ed, S5, f5⟩ := S4.idel keyK b (set_at hb) ty94 k hk' [41]
      rw [keyK_f] at ed
      simp (disch := omega) only [sh, sh2, x4, key_o, ed]
      have e : upd (fun k => if k ∉ left ∧ p k = true then none else mp k) k none = fun k => if k ∉ left' ∧ p k = true then none else mp k := by
        funext k'
        by_cases hkk : k' = k
        · subst hkk; rw [upd_at]; simp [hk', hp]
        · rw [upd_ne _ _ hkk]
          have := h6 k'
          by_cases hkl : k' ∈ left <;> simp_all
      rw [e] at S5
      exact ⟨left'.length, by omega, left', _, rfl, nd', fun k' hk' => hdm k' ((h6 k').1 hk').1, f14.trans f5, S5.set2⟩
    | false =>
      simp (disch := omega) only [sh, sh2]
      refine ⟨left'.length, by omega, left', n', rfl, nd', fun k' hk' => hdm k' ((h6 k').1 hk').1, f14, ?_⟩
      have e : (fun k => if k ∉ left ∧ p k = true then none else mp k) = fun k => if k ∉ left' ∧ p k = true then none else mp k := by
        funext k'
        by_cases hkk : k' = k
        · subst hkk; simp [hp]
        · have := h6 k'
          by_cases hkl : k' ∈ left <;> simp_all
      rw [e] at S4
      exact S4
end Go.Proofs.Ytgncgokjbakdmaa
