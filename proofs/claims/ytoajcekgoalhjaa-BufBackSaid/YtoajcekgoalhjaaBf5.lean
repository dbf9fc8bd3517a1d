/-
  buf: what a cache stands for; drop, last, makeRoom.
-/
import Derived.Test.YtoajcekgoalhjaaBf4
set_option linter.all false
namespace Go.Proofs.Ytoajcekgoalhjaa
open Go.ChangeShapes Go.WideShapes Go.ChangeAt Go.RowKit Go.Lm
set_option linter.unusedSimpArgs false
set_option maxRecDepth 10000
/-! ### plain -/
structure CSt where
  room : Int
  d : DSt
  ord : List Int
  bs : Int → Option (List Int × Bool)
structure CWf (st : CSt) : Prop where
  dw : DWf st.d
  r1 : 1 ≤ st.room
  r2 : st.room ≤ 1024
  nd : st.ord.Nodup
  le : (st.ord.length : Int) ≤ st.room
  mem : ∀ n, n ∈ st.ord ↔ (st.bs n).isSome = true
  blk : ∀ n b t, st.bs n = some (b, t) → (0 ≤ n ∧ n < st.d.cnt) ∧ b.length = 512 ∧ (t = false → b = st.d.rd n)
def CSt.view (st : CSt) (n : Int) : List Int := match st.bs n with
  | some (b, _) => b
  | none => st.d.rd n
def CSt.dty (st : CSt) (n : Int) : Bool := match st.bs n with
  | some (_, t) => t
  | none => false
structure BX where
  n : Int
  p : Nat
  V : LV
  b : List Int
  t : Bool
def BX.Ts (x : BX) : List Thing := [Thing.vec byteE x.V x.b, Thing.cells x.p [x.V, .bool x.t]]
def BX.ptr (x : BX) : LV := .ptr x.p 0
def bget : List BX → Int → Option BX
  | [], _ => none
  | x :: l, n => if x.n = n then some x else bget l n
def rest (n : Int) (xs : List BX) : List BX := xs.filter fun x => !(x.n == n)
theorem bget_mem : ∀ {xs : List BX} {n : Int} {x : BX}, bget xs n = some x → x ∈ xs ∧ x.n = n
  | [], _, _, h => by cases h
  | y :: l, n, x, h => by
    simp only [bget] at h
    by_cases hy : y.n = n
    · rw [if_pos hy] at h; cases h; exact ⟨List.mem_cons_self .., hy⟩
    · rw [if_neg hy] at h
      have := bget_mem h
      exact ⟨List.mem_cons_of_mem _ this.1, this.2⟩
theorem bget_app (x : BX) (k : Int) : ∀ xs : List BX, bget (xs ++ [x]) k = (bget xs k).or (if x.n = k then some x else none)
  | [] => by simp [bget]
  | y :: l => by
    simp only [List.cons_append, bget, bget_app x k l]
    by_cases h : y.n = k <;> simp [h]
theorem bget_rest (n k : Int) : ∀ xs : List BX, bget (rest n xs) k = if k = n then none else bget xs k
  | [] => by simp [rest, bget]
  | y :: l => by
    have ih := bget_rest n k l
    simp only [rest, List.filter_cons] at ih ⊢
    by_cases h : y.n = n
    · simp only [h, beq_self_eq_true, Bool.not_true, Bool.false_eq_true, if_false, ih, bget]
      by_cases hk : k = n
      · rw [if_pos hk, if_pos hk]
      · rw [if_neg hk, if_neg hk, if_neg (Ne.symm hk)]
    · have hb : (!(y.n == n)) = true := by simp [h]
      rw [if_pos hb]
      simp only [bget, ih]
      by_cases hk : y.n = k
      · subst hk; rw [if_pos rfl, if_neg h, if_pos rfl]
      · rw [if_neg hk, if_neg hk]
theorem bget_set (x : BX) (xs : List BX) (k : Int) : bget (rest x.n xs ++ [x]) k = if k = x.n then some x else bget xs k := by
  rw [bget_app, bget_rest]
  by_cases h : k = x.n
  · simp [h]
  · simp [h, Ne.symm h]
theorem rest_sub (n : Int) (xs : List BX) : (rest n xs).Sublist xs := List.filter_sublist
theorem rest_not {n : Int} {xs : List BX} : n ∉ (rest n xs).map BX.n := by
  simp [rest]
theorem rest_nd {n : Int} {xs : List BX} (h : (xs.map BX.n).Nodup) : ((rest n xs).map BX.n).Nodup := h.sublist ((rest_sub n xs).map _)
theorem set_nd {x : BX} {xs : List BX} (h : (xs.map BX.n).Nodup) : ((rest x.n xs ++ [x]).map BX.n).Nodup := by
  rw [List.map_append, List.nodup_append]
  refine ⟨rest_nd h, by simp, fun a ha b hb => ?_⟩
  simp only [List.map_cons, List.map_nil, List.mem_singleton] at hb
  subst hb
  intro e
  exact rest_not (e ▸ ha)
theorem rest_perm {n : Int} : ∀ {xs : List BX} {x : BX}, (xs.map BX.n).Nodup → bget xs n = some x → xs.Perm (rest n xs ++ [x])
  | [], _, _, h => by cases h
  | y :: l, x, nd, h => by
    simp only [List.map_cons, List.nodup_cons] at nd
    simp only [bget] at h
    by_cases hy : y.n = n
    · rw [if_pos hy] at h; cases h
      have e : rest n (y :: l) = l := by
        rw [rest, List.filter_cons, if_neg (by simp [hy])]
        refine List.filter_eq_self.2 fun z hz => ?_
        have : z.n ≠ n := fun e => nd.1 (by rw [hy, ← e]; exact List.mem_map.2 ⟨z, hz, rfl⟩)
        simp [this]
      rw [e]
      exact (List.perm_append_comm (l₁ := [y]) (l₂ := l))
    · rw [if_neg hy] at h
      have e : rest n (y :: l) = y :: rest n l := by rw [rest, List.filter_cons, if_pos (by simp [hy])]; rfl
      rw [e]
      exact .cons _ (rest_perm nd.2 h)
/-! ### in the heap -/
structure CC where
  Sd : Nat → Prop
  bm : Nat
  OV : LV
  h : Int
  m : Int
  e : Int
  w : Int
  nb : Nat
def CTs (d c : Nat) (room : Int) (k : CC) (ds : DSt) (ord : List Int) (xs : List BX) : List Thing :=
  [DBox d k.Sd ds, Thing.cells c [.ptr d 0, i room, .map k.bm, k.OV, i k.h, i k.m, i k.e, i k.w], Thing.vec intE k.OV ord, Thing.map k.bm intK.k (fun n => (bget xs n).map BX.ptr) k.nb] ++ xs.flatMap BX.Ts
def CD (d c : Nat) (st : CSt) (Ts : List Thing) : Prop := ∃ k xs, Ts = CTs d c st.room k st.d st.ord xs ∧ (st.bs = fun n => (bget xs n).map fun x => (x.b, x.t)) ∧ (xs.map BX.n).Nodup ∧ CWf st
abbrev CBox (d c : Nat) (S : Nat → Prop) (st : CSt) : Thing := Thing.box (CD d c) S st
theorem ty89 : Try.prog.underlying 89 = some (.map 3 92) := by kernel_rfl
theorem ty28 : Try.prog.underlying 28 = some (.pointer 91) := by kernel_rfl
theorem zr92 : zeroL Try.prog 92 = some .nilp := by kernel_rfl
theorem bs50 (h : LHeap) (x : Int) : buildSliceL Try.prog 50 1 [(0, i x)] h = some (.slice h.next 0 1 (.ex 1), h.alloc (.cells [i x] .ex)) := nr (by kernel_rfl)
section
variable {F : Nat → Prop} {g h h' : LHeap} {d c : Nat} {room : Int} {k : CC} {ds : DSt} {ord : List Int} {xs : List BX} {Zs : List Thing} {st : CSt} {S : Nat → Prop}
abbrev cells8 (d : Nat) (room : Int) (k : CC) : List LV := [.ptr d 0, i room, .map k.bm, k.OV, i k.h, i k.m, i k.e, i k.w]
theorem made_ok (x0 : h.get c = some (.cells (cells8 d room k) .ex)) : Ok Try.prog 44 [.ptr c 0] h fun v h' => v = .bool true ∧ h' = h := by
  refine ok44 fun _ _ => ?_
  simp (disch := omega) only [F44, sh, sh2, nil_p ty28 true, x0, cells8, nil_p ty23 true]
  exact ⟨trivial, trivial⟩
theorem cv80 (q p : LV) (h : LHeap) (K : LV → LHeap → Prop) : callV Try.prog (Ok Try.prog) (.func (.func 80) [] [p]) [q] h K = Ok Try.prog 80 [q, p] h K := callV_f (by kernel_rfl)
theorem cv77 (q p : LV) (h : LHeap) (K : LV → LHeap → Prop) : callV Try.prog (Ok Try.prog) (.func (.func 77) [] [p]) [q] h K = Ok Try.prog 77 [q, p] h K := callV_f (by kernel_rfl)
theorem drop1_ok {t : Nat} {n x : Int} (hx : h.get t = some (.cells [i n] .ex)) {K : LV → LHeap → Prop} (hK : K (.bool (x == n)) h) : callV Try.prog (Ok Try.prog) (.func (.func 80) [] [.ptr t 0]) [i x] h K := by
  rw [cv80]
  refine ok80 fun _ _ => ?_
  simp (disch := omega) only [F80, sh, sh2, hx, i, shi]
  exact hK
theorem new_i (n : Int) (h : LHeap) : newL (.int .i64 n) h = some (.ptr h.next 0, h.alloc (.cells [.int .i64 n] .ex)) := rfl
theorem new_p (a : Nat) (h : LHeap) : newL (.ptr a 0) h = some (.ptr h.next 0, h.alloc (.cells [.ptr a 0] .ex)) := rfl
theorem drop_ok (hm : ord.length < 2 ^ 60) (Sp : Sep F g h (CTs d c room k ds ord xs)) (n : Int) : Ok Try.prog 50 [.ptr c 0, i n] h fun v h' => v = .tuple [] ∧ ∃ OV', Sep F g h' (CTs d c room { k with OV := OV' } ds (ord.filter fun x => !(x == n)) xs) := by
  refine ok50 fun _ _ => ?_
  have x0 := Sp.cell (a := c) (vs := cells8 d room k) 1 rfl
  have S1 := Sp.temp (.cells [i n] .ex)
  have x1 := S1.cell (a := c) (vs := cells8 d room k) 1 rfl
  have T2 : (CTs d c room k ds ord xs)[2]? = some (Thing.vec intE k.OV ord) := rfl
  simp only [i, cells8] at x0 x1
  simp (disch := omega) only [F50, sh, sh2, i, new_i, x1]
  have O : Vec intE 0 (h.alloc (.cells [i n] .ex)) k.OV ord := ⟨S1.row 2 T2, S1.grow 2 T2, fun a ha => ⟨Nat.zero_le _, S1.lt 2 T2 ha⟩⟩
  refine (deleteFunc79_ok (p := fun x => x == n) O (S1.mine 2 T2) (by omega) fun h1 x K f hK => ?_).mono ?_
  · refine drop1_ok ?_ hK
    rw [f.eq h.next (Nat.lt_succ_self _) fun hq => by have := Sp.lt 2 T2 (a := h.next) hq; omega]
    exact get_alloc_eq _ _
  rintro V h2 ⟨O2, m2, f2, o2⟩
  have S2 := S1.put 2 T2 (Thing.vec intE V (ord.filter fun x => !(x == n))) f2 ⟨O2.row, O2.grow, m2⟩ fun a ha => ⟨.inl (o2 a ha), (O2.lo a ha).2⟩
  have x2 := S2.cell (a := c) (vs := cells8 d room k) 1 rfl
  have S3 := S2.store (a := c) (vs := cells8 d room k) 1 rfl [.ptr d 0, i room, .map k.bm, V, i k.h, i k.m, i k.e, i k.w]
  have cV := O2.row.cell
  simp only [i, cells8] at x2
  simp (disch := omega) only [store_o _ _ _ cV, sh, sh2, x2]
  exact ⟨trivial, V, S3⟩
theorem last_ok (hm : ord.length < 2 ^ 40) (Sp : Sep F g h (CTs d c room k ds ord xs)) (n : Int) : Ok Try.prog 45 [.ptr c 0, i n] h fun v h' => v = .tuple [] ∧ ∃ OV', Sep F g h' (CTs d c room { k with OV := OV' } ds ((ord.filter fun x => !(x == n)) ++ [n]) xs) := by
  refine ok45 fun _ _ => ?_
  simp (disch := omega) only [F45]
  refine (drop_ok (by omega) Sp n).mono ?_
  rintro _ h1 ⟨rfl, OV', S1⟩
  have hfl : (ord.filter fun x => !(x == n)).length ≤ ord.length := List.length_filter_le _ _
  have x1 := S1.cell (a := c) (vs := cells8 d room { k with OV := OV' }) 1 rfl
  obtain ⟨V, h2, ea, S2, cV, _, _⟩ := S1.push (V := OV') (E := intE) (l := ord.filter fun x => !(x == n)) 2 rfl (bytes := 8) n (cs := [i n]) rfl (by omega)
  have x2 := S2.cell (a := c) (vs := cells8 d room { k with OV := OV' }) 1 rfl
  have hap := ap50 (V := OV') (U := .slice h1.next 0 1 (.ex 1)) rfl (h1.alloc (.cells [i n] .ex))
  have he : intE.e = 1 := rfl
  rw [he] at ea
  rw [ea] at hap
  have hbs := bs50 h1 n
  simp only [i, cells8] at x1 x2 hap hbs
  simp (disch := omega) only [sh, sh2, x1, i, hbs, hap, store_o _ _ _ cV, x2]
  have S3 := S2.store (a := c) (vs := cells8 d room { k with OV := OV' }) 1 rfl [.ptr d 0, i room, .map k.bm, V, i k.h, i k.m, i k.e, i k.w]
  exact ⟨trivial, V, S3⟩
/-- What stands at a number. -/
theorem blk_at (Sp : Sep F g h (CTs d c room k ds ord xs)) {n : Int} {x : BX} (hx : bget xs n = some x) : lookupL Try.prog 89 (.map k.bm) (.int .i64 n) true h = some (.tuple [.ptr x.p 0, .bool true]) ∧ lookupL Try.prog 89 (.map k.bm) (.int .i64 n) false h = some (.ptr x.p 0) ∧ h.get x.p = some (.cells [x.V, .bool x.t] .ex) ∧ Row h x.V byteE x.b := by
  have M := Sp.at (T := Thing.map k.bm intK.k (fun n => (bget xs n).map BX.ptr) k.nb) 3 rfl
  have h1 := MapIs.lookup (P := Try.prog) intK M ty89 zr92 n true
  have h2 := MapIs.lookup (P := Try.prog) intK M ty89 zr92 n false
  rw [hx] at h1 h2
  have hxm := (bget_mem hx).1
  have hT : ∀ T ∈ x.Ts, T.ok h := fun T hT => Sp.ok T (List.mem_append.2 (.inr (List.mem_flatMap.2 ⟨x, hxm, hT⟩)))
  exact ⟨h1, h2, hT (Thing.cells x.p [x.V, .bool x.t]) (by simp [BX.Ts]), (hT (Thing.vec byteE x.V x.b) (by simp [BX.Ts])).1⟩
theorem blk_no (Sp : Sep F g h (CTs d c room k ds ord xs)) {n : Int} (hx : bget xs n = none) : lookupL Try.prog 89 (.map k.bm) (.int .i64 n) true h = some (.tuple [.nilp, .bool false]) := by
  have M := Sp.at (T := Thing.map k.bm intK.k (fun n => (bget xs n).map BX.ptr) k.nb) 3 rfl
  have h1 := MapIs.lookup (P := Try.prog) intK M ty89 zr92 n true
  rw [hx] at h1
  exact h1
end
end Go.Proofs.Ytoajcekgoalhjaa
