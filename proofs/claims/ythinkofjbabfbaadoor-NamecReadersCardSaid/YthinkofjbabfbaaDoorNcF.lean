/-
  namec: Forget, Put, ForgetDir, Kept.
-/
import Derived.Test.YthinkofjbabfbaaDoorNcE
set_option linter.all false
namespace Go.Proofs.YthinkofjbabfbaaDoor
open Go.ChangeShapes Go.WideShapes Go.ChangeAt Go.RowKit Go.Lm
set_option linter.unusedSimpArgs false
set_option linter.unusedVariables false
set_option maxRecDepth 10000
def dropK (L : List KE) (k : NKey) : List KE := L.filter fun e => !decide (e.1 = k)
def forgetS (st : NSt) (k : NKey) : NSt := match look st.L k with
  | none => st
  | some e => { st with L := dropK st.L k, waits := st.waits ++ [(e.2.2, st.ep)] }
theorem dropK_keys (L : List KE) (k : NKey) : (keysS L).filter (fun x => !decide (x = k)) = keysS (dropK L k) := by
  unfold keysS dropK
  rw [List.filter_map]
  rfl
theorem look_drop (L : List KE) (k : NKey) : mpS (dropK L k) = upd (mpS L) k none := by
  funext x
  by_cases e : x = k
  · subst e
    rw [upd_at]
    have : look (dropK L x) x = none := look_none_k.2 fun e he => by
      unfold dropK at he
      simpa using (List.mem_filter.1 he).2
    unfold mpS; rw [this]; rfl
  · rw [upd_ne _ _ e]
    have : look (dropK L k) x = look L x := by
      unfold look dropK
      rw [List.find?_filter]
      congr 1
      funext y
      by_cases hy : y.1 = x
      · have : ¬ y.1 = k := fun h => e (hy ▸ h)
        simp [hy, this, e]
      · simp [hy]
    unfold mpS; rw [this]
theorem dropK_len {L : List KE} {k : NKey} {e : KE} (nd : (keysS L).Nodup) (h : look L k = some e) : (dropK L k).length + 1 = L.length ∧ ∃ a b, L = a ++ e :: b ∧ dropK L k = a ++ b := by
  obtain ⟨hm, hk⟩ := look_mem_k h
  obtain ⟨a, b, rfl⟩ := List.append_of_mem hm
  have nd' := nd
  unfold keysS at nd'
  rw [List.map_append, List.map_cons, List.nodup_append, List.nodup_cons] at nd'
  obtain ⟨n1, ⟨n2, n3⟩, n4⟩ := nd'
  have ha : ∀ x ∈ a, x.1 ≠ k := fun x hx e' => n4 _ (List.mem_map.2 ⟨x, hx, rfl⟩) _ (List.mem_cons_self ..) (by rw [e', hk])
  have hb : ∀ x ∈ b, x.1 ≠ k := fun x hx e' => n2 (List.mem_map.2 ⟨x, hx, by rw [e', hk]⟩)
  have hd : dropK (a ++ e :: b) k = a ++ b := by
    unfold dropK
    rw [List.filter_append, List.filter_cons, List.filter_eq_self.2 (fun x hx => by simpa using ha x hx), List.filter_eq_self.2 (fun x hx => by simpa using hb x hx)]
    simp [hk]
  exact ⟨by rw [hd]; simp; omega, a, b, rfl, hd⟩
theorem NWf.forget {st : NSt} (w : NWf st) (k : NKey) : NWf (forgetS st k) := by
  unfold forgetS
  cases h : look st.L k with
  | none => exact w
  | some e =>
    obtain ⟨hl, a, b, e1, e2⟩ := dropK_len w.keys h
    have p : (st.L.map (fun e => e.2.2) ++ st.waits.map (·.1)).Perm ((dropK st.L k).map (fun e => e.2.2) ++ (st.waits ++ [(e.2.2, st.ep)]).map (·.1)) := by
      rw [e2, e1, List.map_append, List.map_append, List.map_append, List.map_cons]
      simp only [List.map_cons, List.map_nil]
      rw [List.append_assoc, List.append_assoc]
      refine List.Perm.append_left _ ?_
      rw [List.cons_append, ← List.append_assoc]
      exact (List.perm_append_singleton _ _).symm
    refine ⟨w.nest, w.passed, w.room, ?_, ?_, p.nodup_iff.1 w.ids, fun x hx => w.up x (p.mem_iff.2 hx), ?_⟩
    · have := w.len; show ((dropK st.L k).length : Int) ≤ st.room; omega
    · show (keysS (dropK st.L k)).Nodup
      rw [← dropK_keys]; exact w.keys.filter _
    · have := w.sum
      show (((dropK st.L k).length : Int) + ((st.waits ++ [(e.2.2, st.ep)]).length : Nat)) ≤ st.last
      rw [List.length_append]; simp only [List.length_singleton]; omega
theorem NWf.fresh {st : NSt} (w : NWf st) {k : NKey} {e : KE} (h : look st.L k = some e) : e.2.2 ∉ st.waits.map (·.1) := fun hh => by
  have := (List.nodup_append.1 w.ids).2.2 e.2.2 (List.mem_map.2 ⟨e, (look_mem_k h).1, rfl⟩) e.2.2 hh
  exact this rfl
/-- The cache and its domain. -/
abbrev CTs (c d m n : Nat) (OV NV PV WV : LV) (st : NSt) : List Thing := CTg c d st.room m (mpS st.L) n OV (keysS st.L) st.last NV PV st.nest st.passed st.ep WV st.waits
def CD (c d : Nat) (st : NSt) (Ts : List Thing) : Prop := ∃ m n OV NV PV WV, Ts = CTs c d m n OV NV PV WV st
section
variable {F : Nat → Prop} {g h : LHeap} {c d m n : Nat} {OV NV PV WV : LV} {st : NSt} {Zs : List Thing}
theorem ct_last {room last ep : Int} {mp : NKey → Option LV} {order : List NKey} {nest : List Int} {passed : List Bool} {waits : List (Int × Int)} {T : Thing} : (CTg c d room m mp n OV order last NV PV nest passed ep WV waits ++ (Zs ++ [T]))[7 + Zs.length]? = some T := by
  unfold CTg
  rw [List.getElem?_append_right (by simp)]
  simp
theorem eq60_ok {t3 : Nat} {k x : NKey} (xk : h.get t3 = some (.cells (nameE.f k) .ex)) (hlt : t3 < h.next) {K : LV → LHeap → Prop} (hK : ∀ h', Fr noF h h' → K (.bool (decide (x = k))) h') : Ok Tryd.prog 60 [.agg (nameE.f x), .ptr t3 0] h K := by
  refine ok60 fun _ _ => ?_
  have hn : newL (.agg (nameE.f x)) h = some (.ptr h.next 0, h.alloc (.cells (nameE.f x) .ex)) := new_agg _ _ (nameE.cell x)
  have x1 : (h.alloc (.cells (nameE.f x) .ex)).get h.next = some (.cells (nameE.f x) .ex) := get_alloc_eq _ _
  have x2 : (h.alloc (.cells (nameE.f x) .ex)).get t3 = some (.cells (nameE.f k) .ex) := (get_alloc_ne _ _ (by omega)).trans xk
  have eq := name_eqD x k
  simp (disch := omega) only [F60, i, sh, sh2, hn, x1, x2, name_cell, eq]
  exact hK _ (Fr.alloc _ _)
theorem ext60 (x y : LV) : extL Tryd.prog 60 [x, y] = none := by kernel_rfl
set_option maxHeartbeats 2000000 in
/-- Forget. -/
theorem forget_ok (Sp : Sep F g h (CTs c d m n OV NV PV WV st ++ Zs)) (w : NWf st) (hl : st.last < 2 ^ 42) (k : NKey) :
    Ok Tryd.prog 21 [.ptr c 0, .agg (nameE.f k)] h fun v h' => v = .bool (look st.L k).isSome ∧ ∃ n' OV' WV', Sep F g h' (CTs c d m n' OV' NV PV WV' (forgetS st k) ++ Zs) := by
  refine ok21 fun wf _ => ?_
  have hn : newL (.agg (nameE.f k)) h = some (.ptr h.next 0, h.alloc (.cells (nameE.f k) .ex)) := new_agg _ _ (nameE.cell k)
  have S1 := Sp.new (nameE.f k)
  generalize ht : h.next = t3 at *
  generalize hh : h.alloc (.cells (nameE.f k) .ex) = h1 at *
  rw [List.append_assoc] at S1
  have xk : h1.get t3 = some (.cells (nameE.f k) .ex) := S1.cell (7 + Zs.length) ct_last
  have ex : ∀ a b, extractL (.tuple [a, b]) 0 = some a ∧ extractL (.tuple [a, b]) 1 = some b := fun _ _ => ⟨rfl, rfl⟩
  simp (disch := omega) only [F21, i, sh, sh2, hn, xk, name_cell]
  refine (look_ok S1 k).mono ?_
  rintro _ h2 ⟨rfl, f2⟩
  have S2 := S1.pure f2
  have fin0 : ∀ {h' Ts}, Sep F g h' (Ts ++ (Zs ++ [Thing.cells t3 (nameE.f k)])) → Sep F g h' (Ts ++ Zs) := fun {h' Ts} hS => by
    rw [← List.append_assoc] at hS; exact hS.init
  cases hlk : look st.L k with
  | none =>
    have e0 : forgetS st k = st := by unfold forgetS; rw [hlk]
    rw [e0]
    simp (disch := omega) only [i, sh, sh2, ex, Option.isSome_none]
    exact ⟨trivial, n, OV, WV, fin0 S2⟩
  | some e =>
    have e0 : forgetS st k = { st with L := dropK st.L k, waits := st.waits ++ [(e.2.2, st.ep)] } := by unfold forgetS; rw [hlk]
    have ekv : kv2 st.L k = (e.2.1, e.2.2) := by unfold kv2; rw [hlk]; rfl
    have x2 := S2.cell (a := c) (vs := [.ptr d 0, i st.room, .map m, OV, i st.last]) 0 rfl
    have xk2 : h2.get t3 = some (.cells (nameE.f k) .ex) := S2.cell (7 + Zs.length) ct_last
    have lk := (lk110 (S2.at (T := Thing.map m nameK.k (mpS st.L) n) 1 rfl) k).2
    have fv : fieldVT Tryd.prog 114 1 (.agg (waitE.f (kv2 st.L k))) = some (.int .i64 e.2.2) := by rw [ekv]; kernel_rfl
    simp (disch := omega) only [i, sh, sh2, shc, ex, Option.isSome_some, x2, xk2, name_cell, lk, fv]
    have hwl := w.sum
    refine (defer_ok S2 w.nest.1 w.nest.2 (by omega) e.2.2 (w.fresh hlk)).mono ?_
    rintro _ h3 ⟨rfl, WV', S3⟩
    have x3 := S3.cell (a := c) (vs := [.ptr d 0, i st.room, .map m, OV, i st.last]) 0 rfl
    have xk3 : h3.get t3 = some (.cells (nameE.f k) .ex) := S3.cell (7 + Zs.length) ct_last
    obtain ⟨H4, n', ed, S4, f4⟩ := S3.mdel' (P := Tryd.prog) nameK (mp := mpS st.L) (n := n) 1 rfl ty110 k [42]
    have ed : builtinL Tryd.prog .delete [110, 42] [.map m, .agg (nameE.f k)] h3 = some (undefL, H4) := ed
    rw [← look_drop] at S4
    have S4 : Sep F g H4 (CTg c d st.room m (mpS (dropK st.L k)) n' OV (keysS st.L) st.last NV PV st.nest st.passed st.ep WV' (st.waits ++ [(e.2.2, st.ep)]) ++ (Zs ++ [Thing.cells t3 (nameE.f k)])) := S4
    have x4 := S4.cell (a := c) (vs := [.ptr d 0, i st.room, .map m, OV, i st.last]) 0 rfl
    have xk4 : H4.get t3 = some (.cells (nameE.f k) .ex) := S4.cell (7 + Zs.length) ct_last
    have lt4 : t3 < H4.next := S4.lt (T := Thing.cells t3 (nameE.f k)) (7 + Zs.length) ct_last (a := t3) rfl
    have R4 := S4.row (E := nameE) (V := OV) (l := keysS st.L) 2 rfl
    have G4 := S4.grow (E := nameE) (V := OV) (l := keysS st.L) 2 rfl
    have M4 := S4.mine (E := nameE) (V := OV) (l := keysS st.L) 2 rfl
    have ltO : ∀ a, OV.obj = some a → a < H4.next := fun a ha => S4.lt (T := Thing.vec nameE OV (keysS st.L)) 2 rfl (a := a) ha
    have apO : ∀ a, OV.obj = some a → a ≠ t3 := fun a ha e' => S4.apart (T := Thing.vec nameE OV (keysS st.L)) (U := Thing.cells t3 (nameE.f k)) (i := 2) (j := 7 + Zs.length) rfl ct_last (by omega) ha (by rw [e']; rfl)
    simp (disch := omega) only [i, sh, sh2, shc, x3, xk3, name_cell, ed, x4]
    have hll := w.len
    have hrm := w.room
    refine (deleteFunc59_ok (p := fun x => decide (x = k)) R4 G4 M4 ltO (by rw [List.length_map]; omega) (fun h' x K f' hK => ?_)).mono ?_
    · show callV Tryd.prog (Ok Tryd.prog) (.func (.func 60) [] [.ptr t3 0]) [.agg (nameE.f x)] h' K
      rw [callV_f (by exact ext60 _ _)]
      exact eq60_ok ((f'.eq t3 lt4 fun ha => apO t3 ha rfl).trans xk4) (Nat.lt_of_lt_of_le lt4 f'.le) hK
    · rintro V5 h5 ⟨R5, G5, M5, f5, o5⟩
      have S5 := S4.put 2 rfl (Thing.vec nameE V5 ((keysS st.L).filter fun x => !decide (x = k))) f5 ⟨R5, G5, M5⟩ fun a ha => ⟨.inl (o5 a ha), Nat.lt_of_lt_of_le (ltO a (o5 a ha)) f5.le⟩
      rw [dropK_keys] at S5
      have S5 : Sep F g h5 (CTg c d st.room m (mpS (dropK st.L k)) n' V5 (keysS (dropK st.L k)) st.last NV PV st.nest st.passed st.ep WV' (st.waits ++ [(e.2.2, st.ep)]) |>.set 0 (Thing.cells c [.ptr d 0, i st.room, .map m, OV, i st.last]) |> (· ++ (Zs ++ [Thing.cells t3 (nameE.f k)]))) := S5
      have x5 := S5.cell (a := c) (vs := [.ptr d 0, i st.room, .map m, OV, i st.last]) 0 rfl
      have S6 := S5.store 0 rfl [.ptr d 0, i st.room, .map m, V5, i st.last]
      have est : storeV 1 (.ptr c 3) V5 h5 = some (h5.set c (.cells [.ptr d 0, i st.room, .map m, V5, i st.last] .ex)) := by rw [store_o _ _ _ R5.cell, x5]; rfl
      simp (disch := omega) only [i, sh, sh2, shc, x5, est]
      rw [e0]
      refine ⟨n', V5, WV', fin0 ?_⟩
      exact S6
end
end Go.Proofs.YthinkofjbabfbaaDoor
