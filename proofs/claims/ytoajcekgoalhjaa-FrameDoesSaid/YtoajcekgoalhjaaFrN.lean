/-
  frame, the reference: with, fill.
-/
import Derived.Test.YtoajcekgoalhjaaFrM
set_option linter.all false
namespace Go.Proofs.Ytoajcekgoalhjaa
open Go.ChangeShapes Go.WideShapes Go.ChangeAt Go.RowKit Go.Lm
set_option linter.unusedSimpArgs false
set_option linter.unusedVariables false
set_option maxRecDepth 10000
theorem perm_swap {A : Type} {a b : A} : ∀ {l : List A} {k : Nat}, l[k]? = some a → (l ++ [b]).Perm (l.set k b ++ [a])
  | [], _, h => by simp at h
  | c :: l, 0, h => by
    obtain rfl : c = a := by simpa using h
    simp only [List.set_cons_zero, List.cons_append]
    have h1 : (c :: (l ++ [b])).Perm ((l ++ [b]) ++ [c]) := (List.perm_append_singleton c (l ++ [b])).symm
    have h2 : ((l ++ [b]) ++ [c]).Perm ((b :: l) ++ [c]) := (List.perm_append_singleton b l).append_right _
    exact h1.trans h2
  | c :: l, k + 1, h => by
    simp only [List.set_cons_succ, List.cons_append]
    exact (perm_swap (l := l) (k := k) (by simpa using h)).cons c
section
variable {F : Nat → Prop} {g h h' : LHeap} {x m a k c : Nat} {cs Vs : List LV} {CV CC SV W : LV} {counts common bs bs' : List Int} {rs : List FX} {r : FX} {Zs Ts : List Thing} {st : FSt} {S : Nat → Prop} {first : Int} {harts : Nat} {V U : LV} {l l2 : List Int}
theorem vec_row (Sp : Sep F g h (Ts ++ [Thing.vec intE W l])) : Sep F g h (Ts ++ [Thing.row intE W l]) := by
  have hi : (Ts ++ [Thing.vec intE W l])[Ts.length]? = some (Thing.vec intE W l) := by simp
  have S1 := Sp.put _ hi (Thing.row intE W l) (Fr.refl _ _) (Sp.row _ hi) fun b hb => ⟨.inl hb, Sp.lt _ hi hb⟩
  rw [List.set_append_right _ _ (Nat.le_refl _), Nat.sub_self, List.set_cons_zero] at S1
  exact S1
/-- A new list is stored; the old one stays. -/
theorem rg_swap (Sp : Sep F g h (RT x first CV counts SV CC common rs ++ Zs ++ [Thing.row intE W l])) (hk : rs[k]? = some r) : ∃ b off h', ixAddrL none 1 SV (.int .i64 (k : Int)) = some (.ptr b off) ∧ storeV 1 (.ptr b off) W h = some h' ∧ Sep F g h' (RT x first CV counts SV CC common (rs.set k ⟨W, l⟩) ++ Zs ++ [Thing.row intE r.V r.l]) := by
  have hl := (List.getElem?_eq_some_iff.1 hk).1
  have hi : (RT x first CV counts SV CC common rs ++ Zs ++ [Thing.row intE W l])[(RT x first CV counts SV CC common rs ++ Zs).length]? = some (Thing.row intE W l) := by simp
  have RW : Row h W intE l := Sep.rowR Sp _ hi
  have S2 := Sp.perm (perm_swap (rg_at hk))
  rw [rg_set hl, List.append_assoc] at S2
  have hV : (rs.map (·.V))[k]? = some r.V := by rw [List.getElem?_map, hk]; rfl
  obtain ⟨b, off, h', e1, e2, S3, _⟩ := S2.stf (E := slE) (V := SV) (l := rs.map (·.V)) 2 rfl (k := k) (j := 0) W (v := W) RW.cell hV (by decide) (by show [cellOr W] = [cellOr r.V].set 0 W; rw [cellOr_eq RW.cell]; rfl)
  have hix := (rg_sv S2).ix (k := .i64) (List.getElem?_eq_some_iff.1 hV).1
  rw [e1] at hix
  refine ⟨b, off, h', hix, e2, ?_⟩
  have e : (RG x first CV counts SV (rs.map (·.V)) CC common (rs.set k ⟨W, l⟩) ++ (Zs ++ [Thing.row intE r.V r.l])).set 2 (Thing.vec slE SV ((rs.map (·.V)).set k W)) = RT x first CV counts SV CC common (rs.set k ⟨W, l⟩) ++ Zs ++ [Thing.row intE r.V r.l] := by
    unfold RT
    rw [List.map_set, List.append_assoc]; rfl
  rw [← e]
  exact S3
/-- A copy of a part, in a new row. -/
theorem copy_ap (Sp : Sep F g h Ts) (R : Row h U intE l) (hlt : ∀ b, U.obj = some b → b < h.next) (hb : l.length ≤ 8192) : ∃ W h', builtinL Try.prog .append [50, 50] [.slice h.next 0 0 (.ex 0), U] (h.alloc (.cells [] .ex)) = some (W, h') ∧ Sep F g h' (Ts ++ [Thing.vec intE W l]) ∧ Fr noF h h' := by
  obtain ⟨W, h', e, S', c, f, _⟩ := Sp.clone' R hlt (bytes := 8) (by omega)
  exact ⟨W, h', (ap50 R.not_str _).trans e, S', f⟩
theorem cut_hi' (R : Row h V intE l) (C : Capd V 1) {j : Nat} (hj : j ≤ l.length) : ∃ U, cutT Try.prog 50 V none (some (.int .i64 (j : Int))) none (limL V h) = some U ∧ Row h U intE (l.take j) ∧ ∀ b, U.obj = some b → V.obj = some b := by
  obtain ⟨U, e, R', _, ob, _⟩ := R.cut C (i := 0) (j := j) (by omega) hj none (some j) rfl rfl
  exact ⟨U, (((cut_t ty50 sz3 (by decide) _ _).1 _ _).trans e), by simpa using R', ob⟩
theorem cut_lo' (R : Row h V intE l) (C : Capd V 1) {j : Nat} (hj : j ≤ l.length) : ∃ U, cutT Try.prog 50 V (some (.int .i64 (j : Int))) none none (limL V h) = some U ∧ Row h U intE (l.drop j) ∧ ∀ b, U.obj = some b → V.obj = some b := by
  obtain ⟨U, e, R', _, ob, _⟩ := R.cut C (i := j) (j := l.length) hj (Nat.le_refl _) (some j) none rfl rfl
  refine ⟨U, (((cut_t ty50 sz3 (by decide) _ _).2.1 _ _).trans e), ?_, ob⟩
  rw [List.take_of_length_le (by rw [List.length_drop]; omega)] at R'
  exact R'
theorem with_ok (R : Row g V intE l) (C : Capd V 1) (hlt : ∀ b, V.obj = some b → b < g.next) (hl : l.length ≤ 8000) (y : Int) : Ok Try.prog 87 [V, i y] g fun W h => ∃ j, (∀ v ∈ l.take j, v < y) ∧ (∀ v, l[j]? = some v → y ≤ v) ∧ Vec intE g.next h W (l.take j ++ [y] ++ l.drop j) ∧ Mine h W ∧ Fr noF g h := by
  refine ok87 fun _ _ => ?_
  have hln := R.len (P := Try.prog) ty50
  simp (disch := omega) only [F87, J87_0, J87_1]
  refine loop_n (fun n s h => ∃ j : Nat, s = i (j : Int) ∧ j + n = l.length ∧ h = g ∧ ∀ v ∈ l.take j, v < y) (n := l.length) ⟨0, rfl, by omega, rfl, fun v hv => by simp at hv⟩ ?_
  rintro n s h ⟨j, rfl, hj, rfl, hlo⟩
  have fin : (∀ v, l[j]? = some v → y ≤ v) → J87_2 V (i y) (i (j : Int)) h fun W h' => ∃ j, (∀ v ∈ l.take j, v < y) ∧ (∀ v, l[j]? = some v → y ≤ v) ∧ Vec intE h.next h' W (l.take j ++ [y] ++ l.drop j) ∧ Mine h' W ∧ Fr noF h h' := fun hv => by
    obtain ⟨U1, e1, R1, o1⟩ := cut_hi' R C (j := j) (by omega)
    have f0 : Fr noF h (h.alloc (.cells [] .ex)) := Fr.alloc _ _
    have Ra : Row (h.alloc (.cells [] .ex)) V intE l := R.fr fun b hb => f0.eq b (hlt b hb) id
    obtain ⟨U1', e1', R1', o1'⟩ := cut_hi' Ra C (j := j) (by omega)
    have hU : Row h U1' intE (l.take j) := R1'.fr fun b hb => (f0.eq b (hlt b (o1' b hb)) id).symm
    obtain ⟨W1, h1, a1, S1, f1⟩ := copy_ap (Sep.start noF h) hU (fun b hb => hlt b (o1' b hb)) (by rw [List.length_take]; omega)
    have Rb : Row h1 V intE l := R.fr fun b hb => f1.eq b (hlt b hb) id
    obtain ⟨U2, e2, R2, o2⟩ := cut_lo' Rb C (j := j) (by omega)
    have S1 : Sep noF h h1 [Thing.vec intE W1 (l.take j)] := S1
    obtain ⟨W2, h2, a2, S2⟩ := vpush S1 (q := 0) rfl y (by rw [List.length_take]; omega)
    have S2 : Sep noF h h2 [Thing.vec intE W2 (l.take j ++ [y])] := S2
    have hbs := bs50_1 y h1
    have hbs0 := bs50_0 h
    simp only [i] at hbs
    have Rc : Row h2 U2 intE (l.drop j) := by
      have Rv : Row h2 V intE l := R.fr fun b hb => S2.fr.eq b (hlt b hb) id
      exact R2.fr fun b hb => (S2.fr.eq b (hlt b (o2 b hb)) id).trans (f1.eq b (hlt b (o2 b hb)) id).symm
    obtain ⟨W3, h3, a3, S3, _⟩ := S2.app (E := intE) (V := W2) (l := l.take j ++ [y]) 0 rfl (bytes := 8) Rc (by rw [List.length_append, List.length_take, List.length_drop]; simp; omega)
    have S3 : Sep noF h h3 [Thing.vec intE W3 (l.take j ++ [y] ++ l.drop j)] := S3
    have a3 : builtinL Try.prog .append [50, 50] [W2, U2] h2 = some (W3, h3) := (ap50 Rc.not_str _).trans a3
    simp (disch := omega) only [J87_2, i, sh, sh2, hbs0, e1', a1, e2, hbs, a2, a3]
    obtain ⟨R3, G3, M3⟩ := S3.at (T := Thing.vec intE W3 (l.take j ++ [y] ++ l.drop j)) 0 rfl
    exact ⟨⟨⟨⟨j, hlo, hv, ⟨R3, G3, fun b hb => ⟨S3.ge 0 rfl hb, S3.lt 0 rfl hb⟩⟩, M3, S3.fr⟩, trivial⟩, trivial⟩, trivial⟩
  cases n with
  | zero =>
    obtain rfl : j = l.length := by omega
    simp (disch := omega) only [L87_3, i, sh, sh2, shi, dec, b_len, hln]
    exact fin fun v hv => by rw [List.getElem?_eq_none (Nat.le_refl _)] at hv; cases hv
  | succ n =>
    have hv := List.getElem?_eq_getElem (show j < l.length by omega)
    generalize l[j] = v at hv
    obtain ⟨b, off, hix, hld⟩ := at_ix R (j := j) (by omega) v hv
    by_cases hlt : v < y
    · simp (disch := omega) only [L87_3, i, sh, sh2, shi, dec, b_len, hln, hix, hld]
      refine ⟨n, by omega, j + 1, rfl, by omega, trivial, fun u hu => ?_⟩
      rw [take_step hv] at hu
      rcases List.mem_append.1 hu with h | h
      · exact hlo u h
      · rw [List.mem_singleton.1 h]; exact hlt
    · simp (disch := omega) only [L87_3, i, sh, sh2, shi, dec, b_len, hln, hix, hld]
      exact fin fun u hu => by rw [hv] at hu; cases hu; omega
theorem b_min8' (n : Nat) (g : LHeap) : builtinL Try.prog .min [3, 3] [.int .i64 8, .int .i64 (n : Int)] g = some (.int .i64 ((min n 8 : Nat) : Int), g) := by
  have e : builtinL Try.prog .min [3, 3] [.int .i64 8, .int .i64 (n : Int)] g = some (.int .i64 (if (n : Int) < 8 then (n : Int) else 8), g) := nr rfl
  rw [e]
  congr 3
  split <;> omega
end
end Go.Proofs.Ytoajcekgoalhjaa
