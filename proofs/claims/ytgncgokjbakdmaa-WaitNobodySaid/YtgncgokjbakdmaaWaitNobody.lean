/-
  parapetlaw12.WaitNobody returns true for every call: no condition. The law's own call is computed on the logical machine, its argument left open; Move's one question about it (are two channels the same?) is answered both ways.
-/
import Derived.Test.YtgncgokjbakdmaaRows
import Derived.Test.YtgncgokjbakdmaaLmY
namespace Go.Proofs.Ytgncgokjbakdmaa
open Go.ChangeShapes Go.WideShapes Go.ChangeAt Go.RowKit Go.Lm

theorem Try.own : ownKnob Try.prog.godebug = none := by kernel_rfl
theorem Try.laidOut : laidOutB Try.prog = true := by kernel_rfl
theorem Try.mixed : Try.prog.follows .mixedOrders = true := by kernel_rfl
abbrev i (n : Int) : LV := .int .i64 n
theorem u3 : Try.prog.underlying 3 = some (.int .i64) := by kernel_rfl
theorem int_eq (d : Nat) (a b : Int) : eqTy Try.prog (d + 1) 3 (i a) (i b) = some (a == b) := by simp only [eqTy, u3, if_true]
set_option maxRecDepth 1000000 in
theorem chan_step (d : Nat) (a b c a' b' c' : Int) : eqTy Try.prog (d + 5) 23 (.agg [i a, i b, i c]) (.agg [i a', i b', i c']) =
  (match eqTy Try.prog (d + 3) 3 (i a) (i a') with
   | some true => (match eqTy Try.prog (d + 2) 3 (i b) (i b') with
     | some true => (match eqTy Try.prog (d + 1) 3 (i c) (i c') with
       | some true => some true
       | some false => some false
       | none => none)
     | some false => some false
     | none => none)
   | some false => some false
   | none => none) := by kernel_rfl
theorem chan_eq (a b c a' b' c' : Int) : ∃ r, binL Try.prog .eql 23 false (.agg [i a, i b, i c]) (.agg [i a', i b', i c']) = some (.bool r) := by
  have h : (if Try.prog.eqGuardType Try.prog.depth 23 then none else eqTy Try.prog 60 23 (.agg [i a, i b, i c]) (.agg [i a', i b', i c'])) = eqTy Try.prog 60 23 (.agg [i a, i b, i c]) (.agg [i a', i b', i c']) := by
    rw [if_neg]; rw [show Try.prog.eqGuardType Try.prog.depth 23 = false from by kernel_rfl]; decide
  simp only [binL, eqL]
  rw [h, chan_step 55, int_eq, int_eq, int_eq]
  cases a == a' <;> cases b == b' <;> cases c == c' <;> exact ⟨_, rfl⟩

def reached : List FuncId := [11, 27, 14, 15, 26, 39, 17, 16, 29, 28, 37, 40, 50, 41]
set_option maxRecDepth 1000000 in
theorem fine : reached.all (fineF Try.prog) = true := by kernel_rfl
def reachedA : List FuncId := [13, 12, 14, 40, 41, 50, 42, 15, 17, 43, 26, 49, 76, 75, 93, 16, 27, 28, 39]
set_option maxRecDepth 1000000 in
theorem fineA : reachedA.all (fineF Try.prog) = true := by kernel_rfl
set_option maxRecDepth 1000000 in
theorem awake_computed : (flats [] && (LV.bool true).flat && callB Try.prog reachedA 3000 13 [] (emp 0) fun v _ => v.eqb (.bool true)) = true := by kernel_rfl
theorem awake_pure : Pure Try.prog 13 [] (.bool true) := pure_computed Try.mixed fineA awake_computed
set_option maxRecDepth 1000000 in
theorem asked_ntrue (k t n a b c a' b' c' : Int)  : callQ Try.prog reached [(13, fun _ => .bool true)] [(27, [(14, .bool true)])] 300 11 [.agg [i k, i t, .nils, i a, i b, i c, i a', i b', i c', i n]] (emp 1) (fun v _ => v = .bool true) =
    (Pure Try.prog 13 [] (.bool true) ∧ binL Try.prog .eql 23 false (.agg [i a, i b, i c]) (.agg [i a', i b', i c']) = some (.bool true) ∧ binL Try.prog .eql 23 false (.agg [i a, i b, i c]) (.agg [i a', i b', i c']) = some (.bool true) ∧ LV.bool true = LV.bool true) := by kernel_rfl
set_option maxRecDepth 1000000 in
theorem asked_ttrue (k t n a b c a' b' c' : Int)  : callQ Try.prog reached [(13, fun _ => .bool true)] [(27, [(14, .bool true)])] 300 11 [.agg [i k, i t, .tail 0 0 0 1 true, i a, i b, i c, i a', i b', i c', i n]] (emp 1) (fun v _ => v = .bool true) =
    (Pure Try.prog 13 [] (.bool true) ∧ binL Try.prog .eql 23 false (.agg [i a, i b, i c]) (.agg [i a', i b', i c']) = some (.bool true) ∧ binL Try.prog .eql 23 false (.agg [i a, i b, i c]) (.agg [i a', i b', i c']) = some (.bool true) ∧ LV.bool true = LV.bool true) := by kernel_rfl
set_option maxRecDepth 1000000 in
theorem asked_strue (k t n a b c a' b' c' : Int) (len cap : Nat) : callQ Try.prog reached [(13, fun _ => .bool true)] [(27, [(14, .bool true)])] 300 11 [.agg [i k, i t, .slice 0 0 len (.ex cap), i a, i b, i c, i a', i b', i c', i n]] (emp 1) (fun v _ => v = .bool true) =
    (Pure Try.prog 13 [] (.bool true) ∧ binL Try.prog .eql 23 false (.agg [i a, i b, i c]) (.agg [i a', i b', i c']) = some (.bool true) ∧ binL Try.prog .eql 23 false (.agg [i a, i b, i c]) (.agg [i a', i b', i c']) = some (.bool true) ∧ LV.bool true = LV.bool true) := by kernel_rfl
set_option maxRecDepth 1000000 in
theorem asked_nfalse (k t n a b c a' b' c' : Int)  : callQ Try.prog reached [(13, fun _ => .bool true)] [(27, [(14, .bool false)])] 300 11 [.agg [i k, i t, .nils, i a, i b, i c, i a', i b', i c', i n]] (emp 1) (fun v _ => v = .bool true) =
    (Pure Try.prog 13 [] (.bool true) ∧ binL Try.prog .eql 23 false (.agg [i a, i b, i c]) (.agg [i a', i b', i c']) = some (.bool false) ∧ binL Try.prog .eql 23 false (.agg [i a, i b, i c]) (.agg [i a', i b', i c']) = some (.bool false) ∧ LV.bool true = LV.bool true) := by kernel_rfl
set_option maxRecDepth 1000000 in
theorem asked_tfalse (k t n a b c a' b' c' : Int)  : callQ Try.prog reached [(13, fun _ => .bool true)] [(27, [(14, .bool false)])] 300 11 [.agg [i k, i t, .tail 0 0 0 1 true, i a, i b, i c, i a', i b', i c', i n]] (emp 1) (fun v _ => v = .bool true) =
    (Pure Try.prog 13 [] (.bool true) ∧ binL Try.prog .eql 23 false (.agg [i a, i b, i c]) (.agg [i a', i b', i c']) = some (.bool false) ∧ binL Try.prog .eql 23 false (.agg [i a, i b, i c]) (.agg [i a', i b', i c']) = some (.bool false) ∧ LV.bool true = LV.bool true) := by kernel_rfl
set_option maxRecDepth 1000000 in
theorem asked_sfalse (k t n a b c a' b' c' : Int) (len cap : Nat) : callQ Try.prog reached [(13, fun _ => .bool true)] [(27, [(14, .bool false)])] 300 11 [.agg [i k, i t, .slice 0 0 len (.ex cap), i a, i b, i c, i a', i b', i c', i n]] (emp 1) (fun v _ => v = .bool true) =
    (Pure Try.prog 13 [] (.bool true) ∧ binL Try.prog .eql 23 false (.agg [i a, i b, i c]) (.agg [i a', i b', i c']) = some (.bool false) ∧ binL Try.prog .eql 23 false (.agg [i a, i b, i c]) (.agg [i a', i b', i c']) = some (.bool false) ∧ LV.bool true = LV.bool true) := by kernel_rfl

theorem u30 : Try.prog.underlying 30 = some (.slice 23) := by kernel_rfl
theorem body (g : LHeap) (xs : List LV) (h : ShpArgs Try.prog g 5 [56] xs) : Ok Try.prog 11 xs g fun v _ => v = .bool true := by
  obtain ⟨yss, zs, rfl, hy, h⟩ := shp_struct Try.underlying56 h
  obtain rfl := shp_nil h
  obtain ⟨k, _, rfl, _, _, hy⟩ := alls_int u3 hy
  obtain ⟨t, _, rfl, _, _, hy⟩ := alls_int u3 hy
  obtain ⟨y, _, rfl, hs, hy⟩ := alls_slice u30 hy
  obtain ⟨_, _, rfl, hc, hy1⟩ := alls_struct Try.underlying23 hy
  obtain ⟨a, _, rfl, _, _, hc⟩ := alls_int u3 hc
  obtain ⟨b, _, rfl, _, _, hc⟩ := alls_int u3 hc
  obtain ⟨c, _, rfl, _, _, hc⟩ := alls_int u3 hc
  obtain rfl := alls_nil hc
  obtain ⟨_, _, rfl, hc, hy2⟩ := alls_struct Try.underlying23 hy1
  obtain ⟨a', _, rfl, _, _, hc⟩ := alls_int u3 hc
  obtain ⟨b', _, rfl, _, _, hc⟩ := alls_int u3 hc
  obtain ⟨c', _, rfl, _, _, hc⟩ := alls_int u3 hc
  obtain rfl := alls_nil hc
  obtain ⟨n, _, rfl, _, _, hy3⟩ := alls_int u3 hy2
  obtain rfl := alls_nil hy3
  obtain ⟨r, e⟩ := chan_eq a b c a' b' c'
  rcases hs with rfl | ⟨o, rfl⟩ | ⟨o, len, cap, xss, rfl, _⟩
  · cases r with
    | true => exact blind_asked (P := Try.prog) (g := g) Try.mixed fine (k := 1) (fun _ => 0) (args := [.agg [i k, i t, .nils, i a, i b, i c, i a', i b', i c', i n]]) rfl (asked_ntrue k t n a b c a' b' c') ⟨awake_pure, e, e, rfl⟩
    | false => exact blind_asked (P := Try.prog) (g := g) Try.mixed fine (k := 1) (fun _ => 0) (args := [.agg [i k, i t, .nils, i a, i b, i c, i a', i b', i c', i n]]) rfl (asked_nfalse k t n a b c a' b' c') ⟨awake_pure, e, e, rfl⟩
  · cases r with
    | true => exact blind_asked (P := Try.prog) (g := g) Try.mixed fine (k := 1) (fun _ => o) (args := [.agg [i k, i t, .tail 0 0 0 1 true, i a, i b, i c, i a', i b', i c', i n]]) rfl (asked_ttrue k t n a b c a' b' c') ⟨awake_pure, e, e, rfl⟩
    | false => exact blind_asked (P := Try.prog) (g := g) Try.mixed fine (k := 1) (fun _ => o) (args := [.agg [i k, i t, .tail 0 0 0 1 true, i a, i b, i c, i a', i b', i c', i n]]) rfl (asked_tfalse k t n a b c a' b' c') ⟨awake_pure, e, e, rfl⟩
  · cases r with
    | true => exact blind_asked (P := Try.prog) (g := g) Try.mixed fine (k := 1) (fun _ => o) (args := [.agg [i k, i t, .slice 0 0 len (.ex cap), i a, i b, i c, i a', i b', i c', i n]]) rfl (asked_strue k t n a b c a' b' c' len cap) ⟨awake_pure, e, e, rfl⟩
    | false => exact blind_asked (P := Try.prog) (g := g) Try.mixed fine (k := 1) (fun _ => o) (args := [.agg [i k, i t, .slice 0 0 len (.ex cap), i a, i b, i c, i a', i b', i c', i n]]) rfl (asked_sfalse k t n a b c a' b' c' len cap) ⟨awake_pure, e, e, rfl⟩

set_option maxRecDepth 100000 in
theorem lifted (os : Os) (started : os.Started) (H : Type) (enc : TypeId × Value → H) :
    ReturnsInHanded {} Try.checked os 11 .any (Rows.waitNobodySpec.pre6 enc Try.prog Try.f11 Rows.waitNobodyRow.domain false) (Rows.waitNobodySpec.post enc Try.prog Try.f11 false true false false) := by
  refine returnsInHanded_of_change (C := Try.checked) Try.own started (by kernel_rfl) Try.func11
    (ChangeSpec.witness6 (enc := enc) (C := Try.checked) false ⟨#[], #[.agg #[.int .i64 0, .int .i64 0, .slice none 0 0, .int .i64 0, .int .i64 0, .int .i64 0, .int .i64 0, .int .i64 0, .int .i64 0, .int .i64 0]], []⟩ 8 (by kernel_rfl) (by kernel_rfl) (by kernel_rfl) (by kernel_rfl)) ?_
  intro W base args ds gs before hval0 hW hcnd _
  have hval : ∀ (j : Nat) t v, Try.f11.params[j]? = some t → args[j]? = some v → Value.okWide Try.prog W .any base t v := hval0
  have hW' := hW
  obtain ⟨p, q, hA0, hV, rfl, hfz, hnd⟩ := hW
  have hA : DataW.TrodAll enc Try.prog W 0 (fun _ => true) true Try.f11.params.toList args.toList ds p := hA0
  rw [Try.params11] at hA hval
  obtain ⟨v0, d0, rfl, rfl, _, _⟩ := trodAll_one hA
  obtain ⟨rfl, rfl⟩ := trodVars_none hV
  refine (law_calls (P := Try.prog) (n := 5) (ts := [56]) (by kernel_rfl) hA (fun j t v ht hv => hval j t v (by simpa using ht) hv) (fun g xs _ hs => body g xs hs)).mono fun e W' ⟨he, hb⟩ => ?_
  subst he
  exact ⟨_, rfl, post_true (P := Try.prog) (t := 4) Try.laidOut (by rw [Try.params11]; intro t ht; simp at ht; subst ht; exact ⟨by kernel_rfl, by rw [Try.types_size]; decide⟩) rfl hW' (by kernel_rfl) (by kernel_rfl) rfl hb⟩

theorem holds : Rows.WaitNobodySaid :=
  OpenClaim.holds_of_wide 11 Try.f11 rfl rfl rfl rfl rfl rfl rfl ⟨rfl, rfl, rfl, rfl, rfl⟩ rfl rfl rfl rfl rfl (by kernel_rfl) Try.func11 (by kernel_rfl)
    (of_decide_eq_true (by kernel_rfl)) (by unfold Func.isWrapper; first | (rw [if_pos (by decide +kernel)]; kernel_rfl) | (rw [if_neg (by decide +kernel)]; exact ⟨rfl, rfl⟩))
    (fun os started H enc _ => lifted os started H enc)

#print axioms holds
end Go.Proofs.Ytgncgokjbakdmaa
