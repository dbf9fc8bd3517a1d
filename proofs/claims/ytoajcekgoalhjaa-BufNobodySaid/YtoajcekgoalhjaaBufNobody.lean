/-
  parapetlaw15.BufNobody returns true for every number and every slice of bytes: no condition. The bytes are handed to calls on a nil cache alone and never looked at; the call is carried out on the logical machine, and the kernel computes what comes of it.
-/
import Derived.Test.YtoajcekgoalhjaaRows
import Derived.Test.YtoajcekgoalhjaaLmV
namespace Go.Proofs.Ytoajcekgoalhjaa
open Go.ChangeShapes Go.WideShapes Go.ChangeAt Go.RowKit Go.Lm

theorem Try.own : ownKnob Try.prog.godebug = none := by kernel_rfl
theorem Try.laidOut : laidOutB Try.prog = true := by kernel_rfl
theorem Try.mixed : Try.prog.follows .mixedOrders = true := by kernel_rfl

def reached : List FuncId := [8, 12, 13, 44, 45, 50, 80, 79, 76, 46, 47, 48, 77, 78, 42, 75, 73, 17, 49, 72, 88, 11, 10, 16, 15, 43, 35, 64, 34, 66, 85, 98, 99, 84, 89, 95, 105, 90, 100, 91, 101, 102, 92, 103, 104, 106, 93, 94, 96, 97, 18, 39]
set_option maxRecDepth 1000000 in
theorem fine : reached.all (fineF Try.prog) = true := by kernel_rfl
set_option maxRecDepth 1000000 in
theorem computed (n : Int) (x : LV) : callB Try.prog reached 3000 8 [.int .i64 n, x] (emp 1) isTrue = true := by kernel_rfl

theorem u3 : Try.prog.underlying 3 = some (.int .i64) := by kernel_rfl
theorem u33 : Try.prog.underlying 33 = some (.slice 5) := by kernel_rfl
theorem body (g : LHeap) (xs : List LV) (h : ShpArgs Try.prog g 4 [3, 33] xs) : Ok Try.prog 8 xs g fun v _ => v = .bool true := by
  obtain ⟨i, ys, rfl, _, _, h⟩ := shp_int u3 h
  obtain ⟨y, zs, rfl, hy, h⟩ := shp_slice u33 h
  obtain rfl := shp_nil h
  rcases hy with rfl | ⟨a, rfl⟩ | ⟨a, len, cap, xss, rfl, _⟩
  · exact blind_true (P := Try.prog) (g := g) Try.mixed fine (k := 1) (fun _ => 0) (args := [.int .i64 i, .nils]) rfl (computed i .nils)
  · exact blind_true (P := Try.prog) (g := g) Try.mixed fine (k := 1) (fun _ => a) (args := [.int .i64 i, .tail 0 0 0 1 true]) rfl (computed i (.tail 0 0 0 1 true))
  · exact blind_true (P := Try.prog) (g := g) Try.mixed fine (k := 1) (fun _ => a) (args := [.int .i64 i, .slice 0 0 len (.ex cap)]) rfl (computed i (.slice 0 0 len (.ex cap)))

set_option maxRecDepth 100000 in
theorem lifted (os : Os) (started : os.Started) (H : Type) (enc : TypeId × Value → H) :
    ReturnsInHanded {} Try.checked os 8 .any (Rows.bufNobodySpec.pre6 enc Try.prog Try.f8 Rows.bufNobodyRow.domain false) (Rows.bufNobodySpec.post enc Try.prog Try.f8 false true false false) := by
  refine returnsInHanded_of_change (C := Try.checked) Try.own started (by kernel_rfl) Try.func8
    (ChangeSpec.witness6 (enc := enc) (C := Try.checked) false ⟨#[], #[.int .i64 0, .slice none 0 0], []⟩ 8 (by kernel_rfl) (by kernel_rfl) (by kernel_rfl) (by kernel_rfl)) ?_
  intro W base args ds gs before hval0 hW hcnd _
  have hval : ∀ (j : Nat) t v, Try.f8.params[j]? = some t → args[j]? = some v → Value.okWide Try.prog W .any base t v := hval0
  have hW' := hW
  obtain ⟨p, q, hA0, hV, rfl, hfz, hnd⟩ := hW
  have hA : DataW.TrodAll enc Try.prog W 0 (fun _ => true) true Try.f8.params.toList args.toList ds p := hA0
  rw [Try.params8] at hA hval
  obtain ⟨v0, v1, d0, d1, p0, p1, _, rfl, _, _, _⟩ := trodAll_two hA
  obtain ⟨rfl, rfl⟩ := trodVars_none hV
  refine (law_calls (P := Try.prog) (n := 4) (ts := [3, 33]) (by kernel_rfl) hA (fun j t v ht hv => hval j t v (by simpa using ht) hv) (fun g xs _ hs => body g xs hs)).mono fun e W' ⟨he, hb⟩ => ?_
  subst he
  exact ⟨_, rfl, post_true (P := Try.prog) (t := 4) Try.laidOut (by rw [Try.params8]; intro t ht; simp at ht; rcases ht with rfl | rfl <;> exact ⟨by kernel_rfl, by rw [Try.types_size]; decide⟩) rfl hW' (by kernel_rfl) (by kernel_rfl) rfl hb⟩

theorem holds : Rows.BufNobodySaid :=
  OpenClaim.holds_of_wide 8 Try.f8 rfl rfl rfl rfl rfl rfl rfl ⟨rfl, rfl, rfl, rfl, rfl⟩ rfl rfl rfl rfl rfl (by kernel_rfl) Try.func8 (by kernel_rfl)
    (of_decide_eq_true (by kernel_rfl)) (by unfold Func.isWrapper; first | (rw [if_pos (by decide +kernel)]; kernel_rfl) | (rw [if_neg (by decide +kernel)]; exact ⟨rfl, rfl⟩))
    (fun os started H enc _ => lifted os started H enc)

#print axioms holds
end Go.Proofs.Ytoajcekgoalhjaa
