/-
  image.Check and parapetref23.Check: what they tell of every image. It is the same.
-/
import Derived.Test.YtaofgdibpbpalaaRch
namespace Go.Proofs.Ytaofgdibpbpalaa
open Go.ChangeShapes Go.WideShapes Go.ChangeAt Go.RowKit Go.Lm
set_option linter.unusedSimpArgs false
variable {C : CallSem}
section
variable {P : Program}
theorem binL_quo256 (t : TypeId) (lit : Bool) (k : IntKind) (a : Int) : binL P .quo t lit (.int k a) (.int k 256) = some (.int k (k.wrap (a.tdiv 256))) := by cases k <;> rfl
theorem binL_rem256 (t : TypeId) (lit : Bool) (k : IntKind) (a : Int) : binL P .rem t lit (.int k a) (.int k 256) = some (.int k (a.tmod 256)) := by cases k <;> rfl
theorem binL_rem4 (t : TypeId) (lit : Bool) (k : IntKind) (a : Int) : binL P .rem t lit (.int k a) (.int k 4) = some (.int k (a.tmod 4)) := by cases k <;> rfl
end
def pagesN (n : Int) : Int := (n + 255) / 256
def lenLV : LV → Nat
  | .slice _ _ n _ => n
  | _ => 0
/-- A slice of bytes, as far as it is looked at. -/
def IsB (v : LV) : Prop := v = .nils ∨ (∃ a, v = .tail a 0 0 1 true) ∨ ∃ a len cap, v = .slice a 0 len cap
theorem IsB.cell {v : LV} (h : IsB v) : v.cell = true := by rcases h with rfl | ⟨a, rfl⟩ | ⟨a, len, cap, rfl⟩ <;> rfl
theorem u23 : Try.prog.underlying 23 = some (.slice 5) := by kernel_rfl
theorem u24 : ∃ e, Try.prog.underlying 24 = some (.slice e) := ⟨92, by kernel_rfl⟩
theorem u25 : ∃ e, Try.prog.underlying 25 = some (.slice e) := ⟨94, by kernel_rfl⟩
theorem len_b {v : LV} (h : IsB v) (hp : LHeap) : lenL Try.prog 23 v hp = some (i (lenLV v)) := by
  rcases h with rfl | ⟨a, rfl⟩ | ⟨a, len, cap, rfl⟩ <;> simp [lenL, u23, lenLV]
/-- Rows of a slice. -/
def RowsAt (g : LHeap) (V : LV) (rows : List (List LV)) : Prop :=
  (∀ r ∈ rows, r.length = 2) ∧ ((rows = [] ∧ (V = .nils ∨ ∃ a, V = .tail a 0 0 1 true)) ∨ ∃ a cap, V = .slice a 0 rows.length (.ex cap) ∧ a < g.next ∧ g.get a = some (.cells rows.flatten .ro))
theorem len_rows {g : LHeap} {V : LV} {rows : List (List LV)} {t : TypeId} (ht : ∃ e, Try.prog.underlying t = some (.slice e)) (h : RowsAt g V rows) (hp : LHeap) : lenL Try.prog t V hp = some (i rows.length) := by
  obtain ⟨e, ht⟩ := ht
  rcases h.2 with ⟨rfl, rfl | ⟨a, rfl⟩⟩ | ⟨a, cap, rfl, _⟩ <;> simp [lenL, ht]
theorem flat_drop : ∀ {rows : List (List LV)}, (∀ r ∈ rows, r.length = 2) → ∀ {k : Nat} {r : List LV}, rows[k]? = some r → (rows.flatten.drop (k * 2)).take 2 = r ∧ k * 2 + 2 ≤ rows.flatten.length
  | [], _, k, r, h => by simp at h
  | x :: xs, hl, 0, r, h => by
    simp only [List.getElem?_cons_zero, Option.some.injEq] at h
    subst h
    have h2 := hl x (by simp)
    simp [h2]
  | x :: xs, hl, k + 1, r, h => by
    have h2 := hl x (by simp)
    obtain ⟨h3, h4⟩ := flat_drop (rows := xs) (fun r hr => hl r (List.mem_cons_of_mem _ hr)) (k := k) (r := r) (by simpa using h)
    refine ⟨?_, by simp [h2] at h4 ⊢; omega⟩
    rw [← h3, List.flatten_cons, List.drop_append, h2]
    have e1 : (k + 1) * 2 - 2 = k * 2 := by omega
    have e2 : List.drop ((k + 1) * 2) x = [] := List.drop_eq_nil_of_le (by omega)
    rw [e1, e2, List.nil_append]
theorem row_at {g : LHeap} {V : LV} {rows : List (List LV)} (h : RowsAt g V rows) {k : Nat} {x y : LV} (hk : rows[k]? = some [x, y]) : ∃ a, a < g.next ∧ ixAddrL none 2 V (i k) = some (.ptr a (k * 2)) ∧
    ∀ hp : LHeap, hp.get a = g.get a → loadV (some 2) (.ptr a (k * 2)) hp = some (.agg [x, y]) ∧ loadV none (.ptr a (k * 2)) hp = some x ∧ loadV none (.ptr a (k * 2 + 1)) hp = some y := by
  have hlt : k < rows.length := (List.getElem?_eq_some_iff.1 hk).1
  rcases h.2 with ⟨rfl, _⟩ | ⟨a, cap, rfl, ha, hg⟩
  · simp at hlt
  · refine ⟨a, ha, ?_, fun hp hh => ?_⟩
    · simp only [ixAddrL]
      rw [if_pos ⟨by omega, by omega⟩]
      simp
    · obtain ⟨h1, h2⟩ := flat_drop h.1 hk
      have g0 : rows.flatten[k * 2]? = some x := by
        have := congrArg (fun l => l[0]?) h1
        simpa [List.getElem?_take, List.getElem?_drop] using this
      have g1 : rows.flatten[k * 2 + 1]? = some y := by
        have := congrArg (fun l => l[1]?) h1
        simpa [List.getElem?_take, List.getElem?_drop] using this
      refine ⟨?_, ?_, ?_⟩
      · simp only [loadV, hh, hg]; rw [if_pos h2, h1]
      · simp only [loadV, hh, hg, g0]
      · simp only [loadV, hh, hg, g1]
/-- The heap while an image is looked at: the image's own copy at x, the pages seen behind it. -/
structure Hp (g h : LHeap) (img : List LV) (bs : List Bool) : Prop where
  im : h.get g.next = some (.cells img .ex)
  seen : h.get (g.next + 1) = some (.cells (bs.map .bool) .ex)
  low : ∀ j, j < g.next → h.get j = g.get j
  next : g.next + 2 ≤ h.next
theorem Hp.alloc {g h : LHeap} {img : List LV} {bs : List Bool} (H : Hp g h img bs) (o : LObj) : Hp g (h.alloc o) img bs := by
  have := H.next
  refine ⟨?_, ?_, fun j hj => ?_, ?_⟩
  · rw [LHeap.get_alloc, if_neg (by omega)]; exact H.im
  · rw [LHeap.get_alloc, if_neg (by omega)]; exact H.seen
  · rw [LHeap.get_alloc, if_neg (by omega)]; exact H.low j hj
  · rw [LHeap.next_alloc]; omega
theorem Hp.set {g h : LHeap} {img : List LV} {bs : List Bool} (H : Hp g h img bs) {n : Nat} (hn : g.next + 2 ≤ n) (o : LObj) : Hp g (h.set n o) img bs := by
  refine ⟨?_, ?_, fun j hj => ?_, ?_⟩
  · rw [LHeap.get_set, if_neg (by omega)]; exact H.im
  · rw [LHeap.get_set, if_neg (by omega)]; exact H.seen
  · rw [LHeap.get_set, if_neg (by omega)]; exact H.low j hj
  · rw [LHeap.next_set]; exact H.next
theorem Hp.mark {g h : LHeap} {img : List LV} {bs : List Bool} (H : Hp g h img bs) (bs' : List Bool) : Hp g (h.set (g.next + 1) (.cells (bs'.map .bool) .ex)) img bs' := by
  refine ⟨?_, ?_, fun j hj => ?_, ?_⟩
  · rw [LHeap.get_set, if_neg (by omega)]; exact H.im
  · rw [LHeap.get_set, if_pos rfl]
  · rw [LHeap.get_set, if_neg (by omega)]; exact H.low j hj
  · rw [LHeap.next_set]; exact H.next
theorem Hp.ld {g h : LHeap} {a b c : LV} {bs : List Bool} (H : Hp g h [a, b, c] bs) : loadV none (.ptr g.next 0) h = some a ∧ loadV none (.ptr g.next 1) h = some b ∧ loadV none (.ptr g.next 2) h = some c := by
  simp [loadV, H.im]
/-- A row's own copy. -/
theorem Hp.temp {g h : LHeap} {img : List LV} {bs : List Bool} (H : Hp g h img bs) (z0 z1 x y : LV) (hz : (LV.agg [z0, z1]).cellsOK = true) (hx : x.cell = true) (hy : y.cell = true) : ∃ Ha Hb, newL (.agg [z0, z1]) h = some (.ptr h.next 0, Ha) ∧ storeV 2 (.ptr h.next 0) (.agg [x, y]) Ha = some Hb ∧ Hp g Hb img bs ∧
    loadV none (.ptr h.next 0) Hb = some x ∧ loadV none (.ptr h.next 1) Hb = some y ∧ ∀ bs', loadV none (.ptr h.next 1) (Hb.set (g.next + 1) (.cells bs' .ex)) = some y := by
  have hn := H.next
  refine ⟨h.alloc (.cells [z0, z1] .ex), (h.alloc (.cells [z0, z1] .ex)).set h.next (.cells [x, y] .ex), by simp [newL, hz, LV.cells], ?_, (H.alloc _).set hn _, ?_, ?_, fun bs' => ?_⟩
  · simp [storeV, LV.cells, storeCellsL, splice, hx, hy]
  · simp [loadV]
  · simp [loadV]
  · have : h.next ≠ g.next + 1 := by omega
    simp [loadV, this]
def chkSegs : List (Int × LV) → List Bool → Option (List Bool)
  | [], bs => some bs
  | s :: r, bs => if s.1 < 0 ∨ s.1.tmod 256 ≠ 0 ∨ (16384 : Int) < lenLV s.2 then none else
    if (reachB (IntKind.i64.wrap (s.1.tdiv 256)) (pagesN (lenLV s.2)) bs).1 = true then chkSegs r (reachB (IntKind.i64.wrap (s.1.tdiv 256)) (pagesN (lenLV s.2)) bs).2 else none
def chkZeros : List (Int × Int) → List Bool → Option (List Bool)
  | [], bs => some bs
  | z :: r, bs => if (reachB z.1 z.2 bs).1 = true then chkZeros r (reachB z.1 z.2 bs).2 else none
def sumLen : List (Int × LV) → Int
  | [] => 0
  | s :: r => lenLV s.2 + sumLen r
def headN (a b : Nat) : Int := 10 + 4 * (a + b)
def checkN (en : Int) (segs : List (Int × LV)) (zs : List (Int × Int)) : Int :=
  if (16 : Int) < segs.length ∨ (16 : Int) < zs.length ∨ en < 0 ∨ 65535 < en ∨ en.tmod 4 ≠ 0 then 230 else
  match chkSegs segs (List.replicate 128 false) with
  | none => 230
  | some bs => match chkZeros zs bs with
    | none => 230
    | some _ => if 16384 < headN segs.length zs.length + sumLen segs then 230 else 0
def segRow (s : Int × LV) : List LV := [i s.1, s.2]
def zeroRow (z : Int × Int) : List LV := [i z.1, i z.2]
theorem reachL_len : ∀ (n p : Nat) (bs : List Bool), (reachL n p bs).2.length = bs.length
  | 0, _, _ => rfl
  | n + 1, p, bs => by
    unfold reachL
    split
    · rfl
    · rw [reachL_len n]; simp
theorem reachB_len (f c : Int) (bs : List Bool) : (reachB f c bs).2.length = bs.length := by
  unfold reachB
  split
  · rfl
  · exact reachL_len _ _ _
theorem sumLen_take {segs : List (Int × LV)} : ∀ {k : Nat} {s : Int × LV}, segs[k]? = some s → sumLen (segs.take (k + 1)) = sumLen (segs.take k) + lenLV s.2 := by
  induction segs with
  | nil => intro k s h; simp at h
  | cons x xs ih =>
    intro k s h
    cases k with
    | zero =>
      simp only [List.getElem?_cons_zero, Option.some.injEq] at h
      subst h
      simp [sumLen]
    | succ k =>
      have := ih (k := k) (s := s) (by simpa using h)
      simp only [List.take_succ_cons, sumLen, this]
      omega
theorem pages_eq {n : Nat} (h : n ≤ 2 ^ 48) : IntKind.i64.wrap ((IntKind.i64.wrap ((n : Int) + 255)).tdiv 256) = pagesN n := by
  rw [IntWalk.i64_in ((n : Int) + 255) ⟨by omega, by omega⟩, Int.tdiv_eq_ediv_of_nonneg (by omega)]
  exact IntWalk.i64_in _ ⟨by omega, by omega⟩

set_option maxRecDepth 1000000 in
theorem fine69 : [69].all (fineF Try.prog) = true := by kernel_rfl
set_option maxRecDepth 1000000 in
theorem pages_asked (n : Int) : callQ Try.prog [69] [] [] 100 69 [i n] (emp 0) (fun v _ => v = i (IntKind.i64.wrap ((IntKind.i64.wrap (IntKind.i64.wrap (n + 256) - 1)).tdiv 256))) = (i (IntKind.i64.wrap ((IntKind.i64.wrap (IntKind.i64.wrap (n + 256) - 1)).tdiv 256)) = i (IntKind.i64.wrap ((IntKind.i64.wrap (IntKind.i64.wrap (n + 256) - 1)).tdiv 256))) := by kernel_rfl
theorem pages_pure {n : Nat} (h : n ≤ 2 ^ 48) : Pure Try.prog 69 [i n] (i (pagesN n)) := by
  have e : IntKind.i64.wrap ((IntKind.i64.wrap (IntKind.i64.wrap ((n : Int) + 256) - 1)).tdiv 256) = pagesN n := by
    rw [IntWalk.i64_in ((n : Int) + 256) ⟨by omega, by omega⟩, show (n : Int) + 256 - 1 = n + 255 from by omega]
    exact pages_eq h
  have := pure_asked' Try.mixed fine69 rfl (pages_asked n) rfl
  rwa [e] at this

section
variable (k : LSt → Prop) (K : LEx → LSt → Prop) (st s : LSt) (j : Nat) (I : LSt → Prop) (μ : LSt → Nat)
theorem kk1 : thenL k K .normal st = k st := then_normal k K st
theorem kk2 : thenL k K .ret st = K .ret st := then_ret k K st
theorem kk3 : thenL k K (.exit j) st = K (.exit j) st := then_exit k K st j
theorem kk4 : exitL j K .normal st = K .normal st := exit_normal j K st
theorem kk5 : exitL j K .ret st = K .ret st := exit_ret j K st
theorem kk6 : roundL I μ s K .normal st = (I st ∧ μ st < μ s) := round_normal I μ s st K
theorem kk7 : roundL I μ s K (.exit j) st = K (.exit j) st := round_exit I μ s st K j
theorem kk8 : roundL I μ s K .ret st = K .ret st := round_ret I μ s st K
end

theorem kb1 : (!true) = false := nr rfl
theorem kb2 : (!false) = true := nr rfl
end Go.Proofs.Ytaofgdibpbpalaa
