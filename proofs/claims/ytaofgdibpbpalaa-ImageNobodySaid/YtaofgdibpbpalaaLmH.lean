/-
  The logical machine, part H: append, copy and the other built-ins.
-/
import Derived.Test.YtaofgdibpbpalaaLmG
namespace Go.Lm

variable {P : Program} {W : World} {keep : Nat → Prop} {ρ : Ren} {g : LHeap} {w : World}

theorem growBy_le (m : Nat) : ∀ (r c : Nat), 256 ≤ c → c ≤ 2 * m → Builtin.growBy m r c ≤ 2 * m
  | 0, c, _, h => h
  | r + 1, c, h0, h => by
    simp only [Builtin.growBy]
    split
    · exact h
    · exact growBy_le m r _ (by omega) (by omega)
theorem nextslicecap_le {m c : Nat} (h : c < m) : Builtin.nextslicecap m c ≤ 2 * m := by
  unfold Builtin.nextslicecap
  split
  · omega
  · split
    · omega
    · exact growBy_le m 4 c (by omega) (by omega)

theorem run_askRoom (n : Nat) (w : World) : (askRoom n).run P w = .ok () w := by
  unfold askRoom
  split <;> rfl
theorem run_chooseCap (need old : Nat) (e : TypeId) (hneed : need < 2 ^ 63) (w : World) : ∃ c, need ≤ c ∧ c < 2 ^ 63 ∧ (choose (.appendCap need old e)).run P w = .ok c { w with drawn := w.drawn + 1 } := by
  refine ⟨need + w.tape w.drawn (.appendCap need old e) % (2 ^ 63 - need), Nat.le_add_right _ _, ?_, ?_⟩
  · have := Nat.mod_lt (w.tape w.drawn (.appendCap need old e)) (show 2 ^ 63 - need > 0 by omega)
    omega
  · simp [choose, Sem.run, Question.forced, Question.cut]

/-- the cells of a source -/
theorem run_src {e n : Nat} {x : LV} {new : List LV} (h : Rel W keep ρ g w) (hx : x.ok ρ g.next) (hs : srcCells e x g = some (n, new)) :
    (Builtin.lenOf (x.toV ρ)).run P w = .ok n w ∧ (∀ k, k ≤ n → (Builtin.firstCells e k (x.toV ρ)).run P w = .ok (toVs ρ (new.take (k * e))).toArray w ∨ e ≠ 1 ∧ ∃ s, x = .str s) ∧
      oks ρ g.next new ∧ (∀ v ∈ new, v.cell = true) ∧ (new.length = n * e ∨ e ≠ 1 ∧ ∃ s, x = .str s) := by
  unfold srcCells at hs
  split at hs
  · cases hs
    refine ⟨rfl, fun k hk => .inl ?_, by simp [oks], by simp, .inl (by simp)⟩
    have : k = 0 := by omega
    subst this
    simp only [LV.toV, Builtin.firstCells, Nat.zero_mul, List.take_zero, toVs]
    rfl
  · cases hs
    refine ⟨rfl, fun k hk => .inl ?_, by simp [oks], by simp, .inl (by simp)⟩
    have : k = 0 := by omega
    subst this
    simp only [LV.toV, Builtin.firstCells, Nat.zero_mul, List.take_zero, toVs]
    rfl
  · rename_i a off len c
    split at hs
    · rename_i vs own hg
      split at hs
      · rename_i hle
        cases hs
        obtain ⟨cp, hv⟩ := slice_toV ρ a off n c
        rw [hv]
        refine ⟨rfl, fun k hk => .inl ?_, ?_, ?_, .inl ?_⟩
        · have hke : k * e ≤ n * e := Nat.mul_le_mul_right _ hk
          simp only [Builtin.firstCells]
          rw [run_loadCells h hg (by omega), List.take_take, Nat.min_eq_left hke]
        · exact (oks_iff _ _ _).2 fun v hv => (oks_iff _ _ _).1 (h.oks hg) v (List.mem_of_mem_drop (List.mem_of_mem_take hv))
        · exact fun v hv => h.celled hg v (List.mem_of_mem_drop (List.mem_of_mem_take hv))
        · simp; omega
      · cases hs
    · cases hs
  · rename_i s
    cases hs
    refine ⟨?_, fun k hk => ?_, ?_, ?_, ?_⟩
    · simp [LV.toV, Builtin.lenOf, ByteArray.size]
    · by_cases he : e = 1
      · subst he
        refine .inl ?_
        simp only [LV.toV, Builtin.firstCells, run_pure]
        congr 1
        apply Array.ext'
        simp only [Nat.mul_one, toVs_eq, Array.toList_map, ← List.map_take, List.map_map]
        have : (ByteArray.extract ⟨s.toArray⟩ 0 k).data.toList = s.take k := by
          rw [ByteArray.data_extract]; simp [List.extract_eq_take_drop]
        rw [this]
        rfl
      · exact .inr ⟨he, s, rfl⟩
    · exact (oks_iff _ _ _).2 fun v hv => by
        obtain ⟨b, _, rfl⟩ := List.mem_map.1 hv
        simp [LV.ok]
    · intro v hv
      obtain ⟨b, _, rfl⟩ := List.mem_map.1 hv
      rfl
    · by_cases he : e = 1
      · subst he; exact .inl (by simp)
      · exact .inr ⟨he, s, rfl⟩
  · cases hs

/-- Cells written behind a row's known ones, in its own block: the row begins anew at 'off'. -/
theorem run_grow {i off m : Nat} {vs new : List LV} (h : Rel W keep ρ g w) (hg : g.get i = some (.cells vs .op)) (hm : m = 0 ∨ off + m ≤ vs.length)
    (hok : oks ρ g.next new) (hcell : ∀ v ∈ new, v.cell = true) (hcap : off + m + new.length ≤ ρ.cap i) :
    ∃ w', (storeCells (ρ.addr i (off + m)) (toVs ρ new)).run P w = .ok () w' ∧
      Rel W keep (ρ.put g.next (ρ.blk i) (ρ.base i + off) (ρ.cap i - off)) ((g.erase i).alloc (.cells ((vs.drop off).take m ++ new) .op)) w' := by
  obtain ⟨hi, h1, h2, C, ty, fz, hb, hC, hc, hf, hop⟩ := h.obj i _ hg
  have hop := hop rfl
  obtain ⟨C', hr, hs, hget⟩ := run_storeCells_aux (P := P) (b := ρ.blk i) (base := ρ.base i + (off + m)) (toVs ρ new) 0 C w hb
    (by rw [toVs_length]; omega) (hf (by simp)) (fun v hv => by
      rw [toVs_eq] at hv
      obtain ⟨u, hu, rfl⟩ := List.mem_map.1 hv
      exact LV.not_agg (hcell u hu))
  have hol : ((vs.drop off).take m).length = m := by
    rcases hm with rfl | hm
    · simp
    · simp; omega
  refine ⟨_, hr, h.regrow hg ?_ ?_ (by omega) (by rw [hs]; exact hop) ?_ ?_ (by rw [hs]; exact hf (by simp))⟩
  · exact oks_append.2 ⟨(oks_iff _ _ _).2 fun v hv => (oks_iff _ _ _).1 h1 v (List.mem_of_mem_drop (List.mem_of_mem_take hv)), hok⟩
  · intro v hv
    rcases List.mem_append.1 hv with h' | h'
    · exact h2 v (List.mem_of_mem_drop (List.mem_of_mem_take h'))
    · exact hcell v h'
  · rw [List.length_append, hol]; omega
  · intro j v hj
    rw [hget, toVs_length]
    rw [List.getElem?_append, hol] at hj
    by_cases hjm : j < m
    · rw [if_pos hjm, List.getElem?_take, if_pos hjm, List.getElem?_drop] at hj
      rw [if_neg (by omega), Nat.add_assoc]
      exact hc _ v hj
    · rw [if_neg hjm] at hj
      have := (List.getElem?_eq_some_iff.1 hj).1
      rw [if_pos (by omega), toVs_getElem?, show ρ.base i + off + j - (ρ.base i + (off + m) + 0) = j - m by omega, hj]
      rfl

theorem zeroCells_size (z : Array Value) (n : Nat) : (Builtin.zeroCells z n).size = n * z.size := by simp [Builtin.zeroCells]

/-- What append does where it makes a new row. -/
theorem run_regrowNew {e : Nat} {et : TypeId} {i : TypeInfo} {z : Value} {row : List LV} {need newCap : Nat} {g0 : LHeap} {n : Nat} (h : Rel W keep ρ g0 { w with drawn := n }) (hz : i.zero = some z) (hi : P.info? et = some i) (hzs : z.cells.size = e) (he : 0 < e)
    (hok : oks ρ g0.next row) (hcell : ∀ v ∈ row, v.cell = true) (hlen : row.length = need * e) (hcap : need ≤ newCap) :
    ∃ ρ' w', ((zeroValue et >>= fun z => do
        let rest := Builtin.zeroCells z.cells (newCap - need)
        pure (.slice (some (← newRow et ((toVs ρ row).toArray ++ rest))) need newCap) : Sem Value)).run P { w with drawn := n } = .ok ((LV.slice g0.next 0 need (.op e)).toV ρ') w' ∧
      Post W keep ρ g0 (.slice g0.next 0 need (.op e)) (g0.alloc (.cells row .op)) ρ' w' := by
  rw [run_bind_ok (run_zeroValue' hi hz _)]
  simp only
  have hsz : (Builtin.zeroCells z.cells (newCap - need)).size = (newCap - need) * e := by rw [zeroCells_size, hzs]
  rw [run_bind_ok (run_newRow _ _ _)]
  have hrel := h.newOpen (rest := Builtin.zeroCells z.cells (newCap - need)) (ty := et) (fz := (0, 0)) hok hcell (fun o _ => by simp)
  refine ⟨_, _, ?_, Ren.put_ext _ _ _ _ _, hrel, ?_, by simp⟩
  · simp only [run_pure, LV.toV, Ren.put_addr, Ren.put_cap, Nat.sub_zero]
    rw [hsz, hlen, ← Nat.add_mul, Nat.mul_div_cancel _ he, show need + (newCap - need) = newCap by omega]
  · simp only [LV.ok, Ren.put_cap, LHeap.next_alloc]
    refine ⟨by omega, he, ?_, Ren.put_spot _ _ _ _ _⟩
    rw [hsz, hlen]
    omega

/-- the value of a slice: base, length, capacity -/
theorem slice_val {s : LV} {n sl : Nat} {e : Nat} {old : List LV} (hs : s.ok ρ n) (hsrc : srcCells e s g = some (sl, old)) (hstr : ∀ b, s ≠ .str b) :
    ∃ base cap, s.toV ρ = .slice base sl cap ∧ sl ≤ cap ∧ (base = none → sl = 0) := by
  unfold srcCells at hsrc
  split at hsrc
  · cases hsrc; exact ⟨none, 0, rfl, Nat.le_refl _, fun _ => rfl⟩
  · cases hsrc; exact ⟨_, _, rfl, Nat.zero_le _, fun _ => rfl⟩
  · rename_i a off len c
    split at hsrc
    · split at hsrc
      · cases hsrc
        cases c with
        | ex c => simp only [LV.ok] at hs; exact ⟨_, _, rfl, hs.2, fun e => by cases e⟩
        | op e' => simp only [LV.ok] at hs; exact ⟨_, _, rfl, cap_ge hs.2.1 hs.2.2.1, fun e => by cases e⟩
      · cases hsrc
    · cases hsrc
  · exact absurd rfl (hstr _)
  · cases hsrc

theorem run_firstCells {e n k : Nat} {x : LV} {new : List LV} (h : Rel W keep ρ g w) (hx : x.ok ρ g.next) (hs : srcCells e x g = some (n, new)) (hk : k ≤ n) (hstr : (∃ b, x = .str b) → e = 1) :
    (Builtin.firstCells e k (x.toV ρ)).run P w = .ok (toVs ρ (new.take (k * e))).toArray w := by
  rcases (run_src h hx hs).2.1 k hk with r | ⟨h1, h2⟩
  · exact r
  · exact absurd (hstr h2) h1

open Builtin in
def appCore (et : TypeId) (size sl cap : Nat) (base : Option Addr) (xv : Value) : Sem Value := do
  let n ← lenOf xv
  if sl + n ≤ cap then
    let new ← firstCells size n xv
    if let some a := base then storeCells (a.add (sl * size)) new.toList
    pure (.slice base (sl + n) cap)
  else
    if ((sl + n : Nat) : Int) > IntKind.i64.max ∧ (false = true ∨ (← typeInfo et).bytes = 0) then runtimePanic (.error "growslice: len out of range")
    if nextslicecap (sl + n) cap * (← typeInfo et).bytes > 2 ^ 48 then (do
      if !(← mayShare size sl n base xv) then mark .noRoom
      unsupported (.resourceLimit "append: a slice or a string whose bytes no memory bears"))
    let newCap ← choose (.appendCap (sl + n) cap et)
    askRoom (newCap * (← typeInfo et).bytes)
    let old ← firstCells size sl (.slice base sl cap)
    let new ← firstCells size n xv
    let rest := zeroCells (← zeroValue et).cells (newCap - (sl + n))
    pure (.slice (some (← newRow et (old ++ new ++ rest))) (sl + n) newCap)
theorem append_core {ts : Array TypeId} {ty t t2 et : TypeId} {i : TypeInfo} {d2 : TypeDesc} {base : Option Addr} {sl cap : Nat} {xv : Value} (ht : ts[0]? = some t) (ht2 : ts[1]? = some t2) (hel : sliceElem P t = some et)
    (hu2 : P.underlying t2 = some d2) (hd2 : ∀ k, d2 ≠ .int k) (hi : P.info? et = some i) (w : World) :
    (Builtin.append_ ts ty #[.slice base sl cap, xv]).run P w = (appCore et i.size sl cap base xv).run P w := by
  simp only [Builtin.append_, ht, ht2, show ((#[Value.slice base sl cap, xv] : Array Value))[0]? = some (.slice base sl cap) from rfl, show ((#[Value.slice base sl cap, xv] : Array Value))[1]? = some xv from rfl]
  rw [run_bind_ok (run_sliceElem hel w)]
  simp only
  rw [run_bind_ok (run_sizeOf' hi w)]
  simp only [pure_bind]
  rw [run_bind_ok (run_underlying' hu2 w)]
  cases d2 with
  | int k => exact absurd rfl (hd2 k)
  | _ => rfl
theorem app_fits {et : TypeId} {e sl cap n : Nat} {base : Option Addr} {xv : Value} {C : Array Value} {w' : World} (hn : (Builtin.lenOf xv).run P w = .ok n w) (hf : (Builtin.firstCells e n xv).run P w = .ok C w)
    (hcap : sl + n ≤ cap) (hst : ∀ a, base = some a → (storeCells (a.add (sl * e)) C.toList).run P w = .ok () w') (hno : base = none → w' = w) :
    (appCore et e sl cap base xv).run P w = .ok (.slice base (sl + n) cap) w' := by
  unfold appCore
  rw [run_bind_ok hn, if_pos hcap, run_bind_ok hf]
  cases base with
  | none => rw [hno rfl]; rfl
  | some a => simp only; rw [run_bind_ok (hst a rfl)]; rfl
theorem app_grows {et : TypeId} {i : TypeInfo} {e sl cap n : Nat} {base : Option Addr} {xv : Value} {old new : Array Value} (hn : (Builtin.lenOf xv).run P w = .ok n w)
    (hold : ∀ m, (Builtin.firstCells e sl (.slice base sl cap)).run P { w with drawn := m } = .ok old { w with drawn := m }) (hnew : ∀ m, (Builtin.firstCells e n xv).run P { w with drawn := m } = .ok new { w with drawn := m })
    (hcap : ¬ sl + n ≤ cap) (hi : P.info? et = some i) (hb : i.bytes ≠ 0) (hsz : (sl + n) * i.bytes * 2 ≤ 2 ^ 48) :
    ∃ c, sl + n ≤ c ∧ (appCore et e sl cap base xv).run P w = ((zeroValue et >>= fun z => do
        let rest := Builtin.zeroCells z.cells (c - (sl + n))
        pure (.slice (some (← newRow et (old ++ new ++ rest))) (sl + n) c) : Sem Value)).run P { w with drawn := w.drawn + 1 } := by
  have hb1 : 1 ≤ i.bytes := by omega
  have hneed : sl + n ≤ (sl + n) * i.bytes := by
    conv => lhs; rw [← Nat.mul_one (sl + n)]
    exact Nat.mul_le_mul_left _ hb1
  obtain ⟨c, hc1, hc2, hc3⟩ := run_chooseCap (P := P) (sl + n) cap et (by omega) w
  refine ⟨c, hc1, ?_⟩
  unfold appCore
  rw [run_bind_ok hn, if_neg hcap, run_bind_ok (run_typeInfo hi w), if_neg (by simp [hb])]
  rw [run_bind_ok (run_typeInfo hi w), if_neg]
  · rw [run_bind_ok hc3, run_bind_ok (run_typeInfo hi _), run_bind_ok (run_askRoom _ _), run_bind_ok (hold _), run_bind_ok (hnew _)]
  · have := nextslicecap_le (m := sl + n) (c := cap) (by omega)
    have h2 : Builtin.nextslicecap (sl + n) cap * i.bytes ≤ (2 * (sl + n)) * i.bytes := Nat.mul_le_mul_right _ this
    have h3 : (2 * (sl + n)) * i.bytes = (sl + n) * i.bytes * 2 := by rw [Nat.mul_assoc, Nat.mul_comm 2]
    omega

theorem sim_append {e : Nat} {s x v : LV} {g' : LHeap} {ts : Array TypeId} {ty : TypeId} {t t2 et : TypeId} {i : TypeInfo} {z : Value} {d2 : TypeDesc}
    (h : Rel W keep ρ g w) (hs : s.ok ρ g.next) (hx : x.ok ρ g.next) (hstr : (∃ b, x = .str b) → e = 1)
    (ht : ts[0]? = some t) (ht2 : ts[1]? = some t2) (hel : sliceElem P t = some et) (hu2 : P.underlying t2 = some d2) (hd2 : ∀ k, d2 ≠ .int k)
    (hi : P.info? et = some i) (hz : i.zero = some z) (hzs : z.cells.size = e) (hsz : i.size = e) (he : 0 < e) (hbytes : i.bytes ≠ 0)
    (ha : appendL e i.bytes s x g = some (v, g')) :
    Makes P W keep ρ g w (Builtin.append_ ts ty #[s.toV ρ, x.toV ρ]) v g' := by
  unfold appendL at ha
  split at ha
  · rename_i n new sl old hxs hss
    split at ha
    · cases ha
    · rename_i hns
      have hsstr : ∀ b, s ≠ .str b := fun b e => by subst e; exact hns rfl
      obtain ⟨base, cap, hsv, hcap, hbase⟩ := slice_val hs hss hsstr
      obtain ⟨q1, -, q3, q4, q5⟩ := run_src (P := P) h hx hxs
      obtain ⟨p1, -, p3, p4, p5⟩ := run_src (P := P) h hs hss
      have hnew : new.length = n * e := q5.elim id fun ⟨a, b⟩ => absurd (hstr b) a
      have hold : old.length = sl * e := p5.elim id fun ⟨a, b, c⟩ => absurd c (hsstr b)
      have f1 : ∀ m, (Builtin.firstCells e n (x.toV ρ)).run P { w with drawn := m } = .ok (toVs ρ new).toArray { w with drawn := m } := fun m => by
        rw [run_firstCells (h.drawn (n := m)) hx hxs (Nat.le_refl _) hstr, ← hnew, List.take_length]
      have f2 : ∀ m, (Builtin.firstCells e sl (.slice base sl cap)).run P { w with drawn := m } = .ok (toVs ρ old).toArray { w with drawn := m } := fun m => by
        rw [← hsv, run_firstCells (h.drawn (n := m)) hs hss (Nat.le_refl _) (fun ⟨b, e⟩ => absurd e (hsstr b)), ← hold, List.take_length]
      have hrow : oks ρ g.next (old ++ new) := oks_append.2 ⟨p3, q3⟩
      have hrowc : ∀ v ∈ old ++ new, v.cell = true := fun v hv => (List.mem_append.1 hv).elim (p4 v) (q4 v)
      have hrowl : (old ++ new).length = (sl + n) * e := by rw [List.length_append, hold, hnew, Nat.add_mul]
      unfold Makes
      rw [hsv, append_core ht ht2 hel hu2 hd2 hi w, hsz]
      split at ha
      · -- nothing is appended
        rename_i hn0
        cases ha
        subst hn0
        have h0 : new = [] := List.length_eq_zero_iff.1 (by rw [hnew, Nat.zero_mul])
        subst h0
        refine ⟨ρ, w, ?_, Post.same h hs⟩
        rw [hsv]
        exact app_fits q1 (f1 w.drawn) (by omega) (fun a _ => by simp [toVs, storeCells]) (fun _ => rfl)
      · rename_i hn0
        split at ha
        · cases ha
        · rename_i hbig
          have hbig := Classical.not_not.1 hbig
          have hpos : 0 < n * e := Nat.mul_pos (Nat.pos_of_ne_zero hn0) he
          -- a new row, the elder heap as g0
          have grows : ∀ (g0 : LHeap), (∀ m, Rel W keep ρ g0 { w with drawn := m }) → g0.next = g.next → ¬ sl + n ≤ cap →
              ∃ ρ' w', (appCore et e sl cap base (x.toV ρ)).run P w = .ok ((LV.slice g.next 0 (sl + n) (.op e)).toV ρ') w' ∧
                Post W keep ρ g (.slice g.next 0 (sl + n) (.op e)) (g0.alloc (.cells (old ++ new) .op)) ρ' w' := by
            intro g0 hg0 hnx hc
            obtain ⟨c, c1, c2⟩ := app_grows (P := P) (et := et) q1 f2 f1 hc hi hbytes hbig
            obtain ⟨ρ', w', r1, r2⟩ := run_regrowNew (P := P) (et := et) (need := sl + n) (newCap := c) (hg0 (w.drawn + 1)) hz hi hzs he (by rw [hnx]; exact hrow) hrowc hrowl c1
            refine ⟨ρ', w', ?_, ?_⟩
            · rw [c2, ← hnx, ← r1, toVs_append]
              simp
            · rw [← hnx]
              exact ⟨r2.ext.mono (by rw [hnx]; exact Nat.le_refl _), r2.rel, by simpa [hnx] using r2.ok, by have := r2.le; rw [hnx] at this; exact this⟩
          split at ha
          · rename_i a off len cp
            have hsl : sl = len := by
              unfold srcCells at hss
              simp only at hss
              split at hss
              · split at hss
                · cases hss; rfl
                · cases hss
              · cases hss
            subst hsl
            split at ha
            · rename_i vs own hg
              have hsrc : off + sl * e ≤ vs.length ∧ old = (vs.drop off).take (sl * e) := by
                unfold srcCells at hss
                simp only [hg] at hss
                split at hss
                · rename_i hle; cases hss; exact ⟨hle, rfl⟩
                · cases hss
              obtain ⟨hvis, hold2⟩ := hsrc
              have inplace : ∀ (g1 : LHeap), storeCellsL a (off + sl * e) new g = some g1 → sl + n ≤ cap → base = some (ρ.addr a off) →
                  ∃ w', (appCore et e sl cap base (x.toV ρ)).run P w = .ok (.slice base (sl + n) cap) w' ∧ Rel W keep ρ g1 w' ∧ g1.next = g.next := by
                intro g1 hst hc hb
                obtain ⟨w', s1, s2, s3⟩ := sim_storeCells (P := P) h hst q3
                refine ⟨w', app_fits q1 (f1 w.drawn) hc (fun a' ha' => ?_) (fun e => by rw [hb] at e; cases e), s2, s3⟩
                rw [hb] at ha'; cases ha'
                rw [addr_add]; exact s1
              split at ha
              · rename_i c
                simp only [LV.toV, Value.slice.injEq] at hsv
                obtain ⟨hb1, -, hb3⟩ := hsv
                simp only [LV.ok] at hs
                split at ha
                · rename_i hfit
                  split at ha
                  · rename_i g1 hst
                    cases ha
                    obtain ⟨w', s1, s2, s3⟩ := inplace _ hst (by omega) hb1.symm
                    refine ⟨ρ, w', by rw [s1]; simp only [LV.toV, hb1, hb3], Ren.Ext.refl _ _, s2, ?_, by rw [s3]; exact Nat.le_refl _⟩
                    simp only [LV.ok]; rw [s3]; exact ⟨hs.1, hfit⟩
                  · cases ha
                · rename_i hfit
                  cases ha
                  exact grows g (fun m => h.drawn) rfl (by omega)
              · rename_i e'
                split at ha
                · cases ha
                · rename_i hee
                  have hee : e' = e ∧ own = .op := by
                    constructor
                    · exact Classical.byContradiction fun c => hee (.inl c)
                    · exact Classical.byContradiction fun c => hee (.inr c)
                  obtain ⟨rfl, rfl⟩ := hee
                  simp only [LV.toV, Value.slice.injEq] at hsv
                  obtain ⟨hb1, -, hb3⟩ := hsv
                  simp only [LV.ok] at hs
                  obtain ⟨hs1, hs2, hs3, hsp⟩ := hs
                  split at ha
                  · rename_i hfit
                    split at ha
                    · rename_i g1 hst
                      cases ha
                      have hle : vs.length ≤ ρ.cap a := by
                        obtain ⟨_, _, _, C, ty, fz, _, hC, _, _, hop⟩ := h.obj a _ hg
                        have := hop rfl
                        omega
                      have hcc : sl + n ≤ cap := by rw [← hb3]; exact cap_ge hs2 (by omega)
                      obtain ⟨w', s1, s2, s3⟩ := inplace _ hst hcc hb1.symm
                      refine ⟨ρ, w', by rw [s1]; simp only [LV.toV, hb1, hb3], Ren.Ext.refl _ _, s2, ?_, by rw [s3]; exact Nat.le_refl _⟩
                      simp only [LV.ok]; rw [s3]; exact ⟨hs1, hs2, by omega, hsp⟩
                    · cases ha
                  · rename_i hfit
                    cases ha
                    by_cases hc : sl + n ≤ cap
                    · have hcapc : off + (sl + n) * e' ≤ ρ.cap a := by
                        rw [← hb3, Nat.le_div_iff_mul_le hs2] at hc
                        omega
                      obtain ⟨w', s1, s2⟩ := run_grow (P := P) (m := sl * e') h hg (.inr hvis) q3 q4 (by rw [hnew, Nat.add_assoc, ← Nat.add_mul]; exact hcapc)
                      rw [← hold2] at s2
                      refine ⟨_, w', ?_, Ren.put_ext _ _ _ _ _, s2, ?_, by simp⟩
                      · rw [app_fits q1 (f1 w.drawn) hc (w' := w') (fun a' ha' => by rw [← hb1] at ha'; cases ha'; rw [addr_add]; exact s1) (fun e => by rw [← hb1] at e; cases e)]
                        simp only [LV.toV, ← hb1, ← hb3, Ren.addr, Ren.put_blk, Ren.put_base, Ren.put_cap, Nat.add_zero, Nat.sub_zero]
                      · simp only [LV.ok, Ren.put_cap, LHeap.next_alloc, LHeap.next_erase]
                        exact ⟨by omega, hs2, by omega, Ren.put_spot _ _ _ _ _⟩
                    · exact grows (g.erase a) (fun m => h.drawn.erase) (LHeap.next_erase _ _) hc
            · cases ha
          · rename_i a off alt e' zz
            have hsl : sl = 0 ∧ old = [] := by
              unfold srcCells at hss
              simp only at hss
              cases hss; exact ⟨rfl, rfl⟩
            obtain ⟨rfl, rfl⟩ := hsl
            simp only [LV.toV, Value.slice.injEq] at hsv
            obtain ⟨hb1, -, hb3⟩ := hsv
            simp only [LV.ok] at hs
            obtain ⟨hs1, hs2, hs3, hsp⟩ := hs
            split at ha
            · rename_i hzz
              cases ha
              rw [if_pos hzz] at hb3
              have := grows g (fun m => h.drawn) rfl (by omega)
              simpa using this
            · rename_i hzz
              rw [if_neg hzz] at hb3
              split at ha
              · rename_i vs own hg
                split at ha
                · cases ha
                · rename_i hee
                  have hee : e' = e ∧ own = .op := by
                    constructor
                    · exact Classical.byContradiction fun c => hee (.inl c)
                    · exact Classical.byContradiction fun c => hee (.inr c)
                  obtain ⟨rfl, rfl⟩ := hee
                  cases ha
                  by_cases hc : 0 + n ≤ cap
                  · have hcapc : off + n * e' ≤ ρ.cap a := by
                      rw [← hb3, Nat.le_div_iff_mul_le hs2, Nat.zero_add] at hc
                      omega
                    have hne : (ρ.cap a - off) / e' ≠ 0 := by omega
                    rw [if_neg hne] at hb1
                    have hz0 : zz = false := by simpa using hzz
                    subst hz0
                    simp only [Ren.taddr, Bool.false_eq_true, if_false] at hb1
                    obtain ⟨w', s1, s2⟩ := run_grow (P := P) (m := 0) h hg (.inl rfl) q3 q4 (by rw [hnew]; exact hcapc)
                    simp only [List.take_zero, List.nil_append] at s2
                    refine ⟨_, w', ?_, Ren.put_ext _ _ _ _ _, s2, ?_, by simp⟩
                    · rw [app_fits q1 (f1 w.drawn) hc (w' := w') (fun a' ha' => by rw [← hb1] at ha'; cases ha'; rw [addr_add, Nat.zero_mul]; exact s1) (fun e => by rw [← hb1] at e; cases e)]
                      simp only [LV.toV, ← hb1, ← hb3, Ren.addr, Ren.put_blk, Ren.put_base, Ren.put_cap, Nat.add_zero, Nat.sub_zero, Nat.zero_add]
                    · simp only [LV.ok, Ren.put_cap, LHeap.next_alloc, LHeap.next_erase]
                      exact ⟨by omega, hs2, by omega, Ren.put_spot _ _ _ _ _⟩
                  · have := grows (g.erase a) (fun m => h.drawn.erase) (LHeap.next_erase _ _) hc
                    simpa using this
              · cases ha
          · have hsl : sl = 0 ∧ old = [] := by
              unfold srcCells at hss
              simp only at hss
              cases hss; exact ⟨rfl, rfl⟩
            obtain ⟨rfl, rfl⟩ := hsl
            simp only [LV.toV, Value.slice.injEq] at hsv
            cases ha
            have := grows g (fun m => h.drawn) rfl (by omega)
            simpa using this
          · cases ha
  · cases ha

end Go.Lm
