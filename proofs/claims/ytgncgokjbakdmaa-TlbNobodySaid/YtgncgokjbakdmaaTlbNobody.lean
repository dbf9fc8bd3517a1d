/-
  parapetlaw07.TlbNobody returns true for every hart, key and number: no condition. The call is carried out on the logical machine with its arguments left open (but for the sign of the hart), and the kernel computes what comes of it.
-/
import Derived.Test.YtgncgokjbakdmaaRows
import Derived.Test.YtgncgokjbakdmaaLmV
namespace Go.Proofs.Ytgncgokjbakdmaa
open Go.ChangeShapes Go.WideShapes Go.ChangeAt Go.RowKit Go.Lm

theorem Try.own : ownKnob Try.prog.godebug = none := by kernel_rfl
theorem Try.laidOut : laidOutB Try.prog = true := by kernel_rfl
theorem Try.mixed : Try.prog.follows .mixedOrders = true := by kernel_rfl

def reached : List FuncId := [9, 31, 44, 36, 21, 19, 18, 20, 45, 23, 24, 22, 46, 70, 90, 91, 69, 81, 87, 100, 82, 95, 83, 96, 97, 84, 98, 99, 101, 85, 86, 88, 89, 47, 72, 71, 92, 74, 73, 25, 48, 30, 35]
set_option maxRecDepth 1000000 in
theorem fine : reached.all (fineF Try.prog) = true := by kernel_rfl
set_option maxRecDepth 1000000 in
theorem computed (h : Nat) (s p n : Int) : callB Try.prog reached 3000 9 [.int .i64 (.ofNat h), .agg [.int .i64 s, .int .i64 p], .int .i64 n] (emp 0) isTrue = true := by kernel_rfl
set_option maxRecDepth 1000000 in
theorem computed' (h : Nat) (s p n : Int) : callB Try.prog reached 3000 9 [.int .i64 (.negSucc h), .agg [.int .i64 s, .int .i64 p], .int .i64 n] (emp 0) isTrue = true := by kernel_rfl

theorem u3 : Try.prog.underlying 3 = some (.int .i64) := by kernel_rfl
theorem body (g : LHeap) (xs : List LV) (h : ShpArgs Try.prog g 4 [3, 41, 3] xs) : Ok Try.prog 9 xs g fun v _ => v = .bool true := by
  obtain ⟨i, ys, rfl, _, _, h⟩ := shp_int u3 h
  obtain ⟨yss, zs, rfl, hy, h⟩ := shp_struct Try.underlying41 h
  obtain ⟨n, ws, rfl, _, _, h⟩ := shp_int u3 h
  obtain rfl := shp_nil h
  obtain ⟨s, _, rfl, _, _, hy⟩ := alls_int u3 hy
  obtain ⟨p, _, rfl, _, _, hy⟩ := alls_int u3 hy
  obtain rfl := alls_nil hy
  cases i with
  | ofNat i => exact blind_true (P := Try.prog) (g := g) Try.mixed fine (k := 0) (fun _ => 0) (args := [.int .i64 (.ofNat i), .agg [.int .i64 s, .int .i64 p], .int .i64 n]) rfl (computed i s p n)
  | negSucc i => exact blind_true (P := Try.prog) (g := g) Try.mixed fine (k := 0) (fun _ => 0) (args := [.int .i64 (.negSucc i), .agg [.int .i64 s, .int .i64 p], .int .i64 n]) rfl (computed' i s p n)

set_option maxRecDepth 100000 in
theorem lifted (os : Os) (started : os.Started) (H : Type) (enc : TypeId × Value → H) :
    ReturnsInHanded {} Try.checked os 9 .any (Rows.tlbNobodySpec.pre6 enc Try.prog Try.f9 Rows.tlbNobodyRow.domain false) (Rows.tlbNobodySpec.post enc Try.prog Try.f9 false true false false) := by
  refine returnsInHanded_of_change (C := Try.checked) Try.own started (by kernel_rfl) Try.func9
    (ChangeSpec.witness6 (enc := enc) (C := Try.checked) false ⟨#[], #[.int .i64 0, .agg #[.int .i64 0, .int .i64 0], .int .i64 0], []⟩ 8 (by kernel_rfl) (by kernel_rfl) (by kernel_rfl) (by kernel_rfl)) ?_
  intro W base args ds gs before hval0 hW hcnd _
  have hval : ∀ (j : Nat) t v, Try.f9.params[j]? = some t → args[j]? = some v → Value.okWide Try.prog W .any base t v := hval0
  have hW' := hW
  obtain ⟨p, q, hA0, hV, rfl, hfz, hnd⟩ := hW
  have hA : DataW.TrodAll enc Try.prog W 0 (fun _ => true) true Try.f9.params.toList args.toList ds p := hA0
  rw [Try.params9] at hA hval
  obtain ⟨v0, v1, v2, d0, d1, d2, p0, p1, p2, _, rfl, _, _, _, _⟩ := trodAll_three hA
  obtain ⟨rfl, rfl⟩ := trodVars_none hV
  refine (law_calls (P := Try.prog) (n := 4) (ts := [3, 41, 3]) (by kernel_rfl) hA (fun j t v ht hv => hval j t v (by simpa using ht) hv) (fun g xs _ hs => body g xs hs)).mono fun e W' ⟨he, hb⟩ => ?_
  subst he
  exact ⟨_, rfl, post_true (P := Try.prog) (t := 4) Try.laidOut (by rw [Try.params9]; intro t ht; simp at ht; rcases ht with rfl | rfl | rfl <;> exact ⟨by kernel_rfl, by rw [Try.types_size]; decide⟩) rfl hW' (by kernel_rfl) (by kernel_rfl) rfl hb⟩

theorem holds : Rows.TlbNobodySaid :=
  OpenClaim.holds_of_wide 9 Try.f9 rfl rfl rfl rfl rfl rfl rfl ⟨rfl, rfl, rfl, rfl, rfl⟩ rfl rfl rfl rfl rfl (by kernel_rfl) Try.func9 (by kernel_rfl)
    (of_decide_eq_true (by kernel_rfl)) (by unfold Func.isWrapper; first | (rw [if_pos (by decide +kernel)]; kernel_rfl) | (rw [if_neg (by decide +kernel)]; exact ⟨rfl, rfl⟩))
    (fun os started H enc _ => lifted os started H enc)

#print axioms holds
end Go.Proofs.Ytgncgokjbakdmaa
