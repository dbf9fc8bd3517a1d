/-
  namec: New, and what NamecKeeps' loop does.
-/
import Derived.Test.YthinkofjbabfbaaDoorNcI
set_option linter.all false
namespace Go.Proofs.YthinkofjbabfbaaDoor
open Go.ChangeShapes Go.WideShapes Go.ChangeAt Go.RowKit Go.Lm
set_option linter.unusedSimpArgs false
set_option linter.unusedVariables false
set_option maxRecDepth 10000
theorem mk38 {n : Nat} (hn : n ≤ 2 ^ 40) (h : LHeap) : makeSliceL Tryd.prog 38 (i n) (i n) h = some (.slice h.next 0 n (.ex n), h.alloc (.cells ((List.replicate n (0 : Int)).flatMap intE.f) .ex)) := by
  have e : makeSliceL Tryd.prog 38 (i n) (i n) h = if 0 ≤ (n : Int) ∧ (n : Int) ≤ n ∧ (8 : Int) * n ≤ 2 ^ 48 ∧ (n : Int) < 2 ^ 62 ∧ (i 0).cells.length = 1 ∧ (i 0).cellsOK = true then
      some (.slice h.next 0 (n : Int).toNat (.ex (n : Int).toNat), h.alloc (.cells (List.replicate (n : Int).toNat (i 0).cells).flatten .ex)) else none := nr (by kernel_rfl)
  rw [e, if_pos ⟨by omega, by omega, by omega, by omega, rfl, rfl⟩]
  simp only [Int.toNat_natCast]
  rw [← rep_flat]
  rfl
theorem mk106 {n : Nat} (hn : n ≤ 2 ^ 40) (h : LHeap) : makeSliceL Tryd.prog 106 (i n) (i n) h = some (.slice h.next 0 n (.ex n), h.alloc (.cells ((List.replicate n false).flatMap boolE.f) .ex)) := by
  have e : makeSliceL Tryd.prog 106 (i n) (i n) h = if 0 ≤ (n : Int) ∧ (n : Int) ≤ n ∧ (1 : Int) * n ≤ 2 ^ 48 ∧ (n : Int) < 2 ^ 62 ∧ (LV.bool false).cells.length = 1 ∧ (LV.bool false).cellsOK = true then
      some (.slice h.next 0 (n : Int).toNat (.ex (n : Int).toNat), h.alloc (.cells (List.replicate (n : Int).toNat (LV.bool false).cells).flatten .ex)) else none := nr (by kernel_rfl)
  rw [e, if_pos ⟨by omega, by omega, by omega, by omega, rfl, rfl⟩]
  simp only [Int.toNat_natCast]
  rw [← rep_flat]
  rfl
theorem bl109 (a b n : Nat) : buildL Tryd.prog 109 [(0, .slice a 0 n (.ex n)), (1, .slice b 0 n (.ex n))] = some (.agg [.slice a 0 n (.ex n), .slice b 0 n (.ex n), .int .i64 0, .nils]) := nr (by kernel_rfl)
theorem bl112 (d m : Nat) (r : Int) : buildL Tryd.prog 112 [(0, .ptr d 0), (1, .int .i64 r), (2, .map m)] = some (.agg [.ptr d 0, .int .i64 r, .map m, .nils, .int .i64 0]) := nr (by kernel_rfl)
theorem bl40 (r : Int) : buildL Tryd.prog 40 [(0, .int .i64 r)] = some (.agg [.int .i64 r, .nils, .int .i64 0, .nils]) := nr (by kernel_rfl)
section
variable {F : Nat → Prop} {g h : LHeap} {Ts Zs : List Thing}
theorem sepMade {X : Type} (Sp : Sep F g h Ts) (E : Enc X) (l : List X) {n : Nat} (hn : n = l.length) : Sep F g (h.alloc (.cells (l.flatMap E.f) .ex)) (Ts ++ [Thing.vec E (.slice h.next 0 n (.ex n)) l]) := by
  subst hn
  refine Sp.vec (E := E) (l := l) (.slice h.next 0 l.length (.ex l.length)) ?_ ?_ ?_ (Fr.alloc _ _) ?_
  · refine Row.of (get_alloc_eq _ _) rfl ?_ ?_
    · rw [List.drop_zero, List.take_of_length_le (by rw [flat_len]; exact Nat.le_refl _)]
    · rw [flat_len]; omega
  · exact ⟨Nat.le_refl _, fun hh => by omega⟩
  · exact ⟨_, .ex, get_alloc_eq _ _, by decide⟩
  · intro x hx; cases hx; exact ⟨Nat.le_refl _, Nat.lt_succ_self _⟩
/-- A domain's things. -/
def DTg (d : Nat) (NV PV WV : LV) (nest : List Int) (passed : List Bool) (ep : Int) (waits : List (Int × Int)) : List Thing :=
  [Thing.cells d [NV, PV, i ep, WV], Thing.vec intE NV nest, Thing.vec boolE PV passed, Thing.vec waitE WV waits]
set_option maxHeartbeats 2000000 in
/-- rcu.New. -/
theorem dnew_ok {n : Nat} (h1 : 1 ≤ n) (h8 : n ≤ 8) : Ok Tryd.prog 15 [i (n : Int)] g fun v h => ∃ d NV PV, v = .tuple [.ptr d 0, i 0] ∧ Sep noF g h (DTg d NV PV .nils (List.replicate n 0) (List.replicate n true) 0 []) := by
  refine ok15 fun wf _ => ?_
  have tail : ∀ {h2 : LHeap} {d : Nat} {NV PV : LV}, Sep noF g h2 (DTg d NV PV .nils (List.replicate n 0) (List.replicate n false) 0 []) → J15_2 (.ptr d 0) h2 fun v h => ∃ d NV PV, v = .tuple [.ptr d 0, i 0] ∧ Sep noF g h (DTg d NV PV .nils (List.replicate n 0) (List.replicate n true) 0 []) := by
    intro h2 d NV PV S2
    have x2 := S2.cell (a := d) (vs := [NV, PV, i 0, .nils]) 0 rfl
    have RP := S2.row (E := boolE) (V := PV) (l := List.replicate n false) 2 rfl
    have hl := fun g' => RP.len (P := Tryd.prog) ty106 (g' := g')
    rw [List.length_replicate] at hl
    simp (disch := omega) only [J15_2, J15_4, i, sh, sh2, shc, x2, b_len, hl]
    refine loop_n (fun m (s : LV) h => ∃ k : Nat, s = i (k : Int) ∧ k + m = n ∧ Sep noF g h (DTg d NV PV .nils (List.replicate n 0) (List.replicate k true ++ List.replicate m false) 0 [])) (n := n) ⟨0, rfl, by omega, by simpa using S2⟩ ?_
    rintro m s h ⟨k, rfl, hk, Sp⟩
    cases m with
    | zero =>
      obtain rfl : k = n := by omega
      simp (disch := omega) only [L15_5, J15_3, i, sh, sh2, shi, dec]
      exact ⟨d, NV, PV, rfl, by simpa using Sp⟩
    | succ m =>
      have x3 := Sp.cell (a := d) (vs := [NV, PV, i 0, .nils]) 0 rfl
      have R3 := Sp.row (E := boolE) (V := PV) (l := List.replicate k true ++ List.replicate (m + 1) false) 2 rfl
      have hx : (List.replicate k true ++ List.replicate (m + 1) false)[k]? = some false := by
        rw [List.getElem?_append_right (by simp)]; simp
      have hlt : k < (List.replicate k true ++ List.replicate (m + 1) false).length := by simp
      have ix := R3.ix (k := .i64) (i := k) hlt
      obtain ⟨a, off, h4, e1, e2, S4, _, _⟩ := Sp.stf (E := boolE) (V := PV) (l := List.replicate k true ++ List.replicate (m + 1) false) 2 rfl (k := k) (j := 0) true (v := .bool true) rfl hx (by decide) rfl
      have e3 : boolE.e = 1 := rfl
      rw [e3] at ix e1
      rw [e1] at ix
      rw [Nat.add_zero] at e2
      simp (disch := omega) only [L15_5, i, sh, sh2, shc, shi, dec, x3, ix, e2]
      refine ⟨m, by omega, k + 1, by simp, by omega, ?_⟩
      have es : (List.replicate k true ++ List.replicate (m + 1) false).set k true = List.replicate (k + 1) true ++ List.replicate m false := by
        rw [List.set_append_right _ _ (by simp), List.length_replicate, Nat.sub_self, List.replicate_succ, List.set_cons_zero, List.replicate_succ', List.append_assoc]; rfl
      rw [← es]
      exact S4
  have m38 := fun h => mk38 (n := n) (by omega) h
  have m106 := fun h => mk106 (n := n) (by omega) h
  simp only [i] at m38 m106 tail
  have nw : ∀ (a b : LV) (h : LHeap), a.cell = true → b.cell = true → newL (.agg [a, b, .int .i64 0, .nils]) h = some (.ptr h.next 0, h.alloc (.cells [a, b, .int .i64 0, .nils] .ex)) := fun a b h ha hb => new_agg _ _ (by
    intro v hv
    simp only [List.mem_cons, List.not_mem_nil, or_false] at hv
    rcases hv with rfl | rfl | rfl | rfl
    · exact ha
    · exact hb
    · rfl
    · rfl)
  have SA := sepMade (sepMade (Lm.Sep.start noF g) intE (List.replicate n (0 : Int)) (n := n) (by simp)) boolE (List.replicate n false) (n := n) (by simp)
  have SB := sepMade (sepMade (Lm.Sep.start noF g) boolE (List.replicate n false) (n := n) (by simp)) intE (List.replicate n (0 : Int)) (n := n) (by simp)
  simp (disch := omega) only [F15, J15_0, J15_1, i, sh, sh2, shi, dec, m38, m106, bl109]
  have nwA := fun (a b : LV) (h : LHeap) => nw a b h
  refine ⟨?_, ?_⟩
  · rw [nw _ _ _ rfl rfl]
    have S3 := (SA.new [.slice g.next 0 n (.ex n), .slice (g.alloc (.cells ((List.replicate n (0 : Int)).flatMap intE.f) .ex)).next 0 n (.ex n), i 0, .nils]).nils waitE
    refine ⟨⟨tail (NV := .slice g.next 0 n (.ex n)) (PV := .slice (g.alloc (.cells ((List.replicate n (0 : Int)).flatMap intE.f) .ex)).next 0 n (.ex n)) (S3.perm ?_), trivial⟩, trivial⟩
    exact .trans (.cons _ (.swap _ _ _)) (.swap _ _ _)
  · rw [nw _ _ _ rfl rfl]
    have S3 := (SB.new [.slice (g.alloc (.cells ((List.replicate n false).flatMap boolE.f) .ex)).next 0 n (.ex n), .slice g.next 0 n (.ex n), i 0, .nils]).nils waitE
    refine ⟨⟨⟨tail (NV := .slice (g.alloc (.cells ((List.replicate n false).flatMap boolE.f) .ex)).next 0 n (.ex n)) (PV := .slice g.next 0 n (.ex n)) (S3.perm ?_), trivial⟩, trivial⟩, trivial⟩
    refine .trans (.swap _ _ _) (.trans (.cons _ (.swap _ _ _)) (.swap _ _ _))
def newSt (room : Int) (n : Nat) : NSt := ⟨room, [], 0, List.replicate n 0, List.replicate n true, 0, []⟩
theorem newSt_wf {room : Int} {n : Nat} (h1 : 1 ≤ room) (h2 : room ≤ 4096) (h3 : 1 ≤ n) (h4 : n ≤ 8) : NWf (newSt room n) :=
  ⟨⟨by simp [newSt]; omega, by simp [newSt]; omega⟩, by simp [newSt], ⟨h1, h2⟩, by simp [newSt]; omega, List.nodup_nil, List.nodup_nil, fun x hx => (by cases hx), by simp [newSt]⟩
/-- namec.New. -/
theorem cnew_ok {d n : Nat} {NV PV : LV} {nest : List Int} {passed : List Bool} (room : Int) (Sp : Sep F g h (DTg d NV PV .nils nest passed 0 [] ++ Zs)) :
    Ok Tryd.prog 16 [.ptr d 0, i room] h fun v h' => (¬ (1 ≤ room ∧ room ≤ 4096) ∧ v = .tuple [.nilp, i 1] ∧ h' = h) ∨ ((1 ≤ room ∧ room ≤ 4096) ∧ ∃ c m OV, v = .tuple [.ptr c 0, i 0] ∧ Sep F g h' (CTs c d m 0 OV NV PV .nils ⟨room, [], 0, nest, passed, 0, []⟩ ++ Zs)) := by
  refine ok16 fun wf _ => ?_
  have n1 := nil_p (P := Tryd.prog) ty30 true
  by_cases h1 : room < 1
  · simp (disch := omega) only [F16, i, sh, sh2, shi, dec, n1]
    exact .inl ⟨by omega, by simp⟩
  by_cases h2 : 4096 < room
  · simp (disch := omega) only [F16, i, sh, sh2, shi, dec, n1]
    exact .inl ⟨by omega, by simp⟩
  have S1 := (Sp.newMap nameK.k).new [.ptr d 0, i room, .map h.next, .nils, i 0]
  have hn : newL (.agg [.ptr d 0, .int .i64 room, .map h.next, .nils, .int .i64 0]) (h.alloc (.map [] 0 .ex)) = some (.ptr (h.alloc (.map [] 0 .ex)).next 0, (h.alloc (.map [] 0 .ex)).alloc (.cells [.ptr d 0, .int .i64 room, .map h.next, .nils, .int .i64 0] .ex)) := new_agg _ _ (by simp [LV.cell])
  have bl := bl112 d h.next room
  have S2 := S1.nils nameE
  simp (disch := omega) only [F16, i, sh, sh2, shi, dec, n1, mkK, bl, hn]
  refine Or.inr ⟨by omega, (h.alloc (.map [] 0 .ex)).next, h.next, .nils, rfl, ?_⟩
  refine S2.perm (Us := CTs (h.alloc (.map [] 0 .ex)).next d h.next 0 .nils NV PV .nils ⟨room, [], 0, nest, passed, 0, []⟩ ++ Zs) ?_
  have em : mpS [] = fun _ => none := rfl
  show ((((DTg d NV PV .nils nest passed 0 [] ++ Zs) ++ [Thing.map h.next nameK.k (fun _ => none) 0]) ++ [_]) ++ [_]).Perm ([_, Thing.map h.next nameK.k (mpS []) 0, Thing.vec nameE .nils (keysS [])] ++ (DTg d NV PV .nils nest passed 0 [] ++ Zs))
  rw [List.append_assoc, List.append_assoc]
  refine List.perm_append_comm.trans ?_
  refine List.Perm.append_right _ ?_
  exact .swap _ _ _
end
end Go.Proofs.YthinkofjbabfbaaDoor
