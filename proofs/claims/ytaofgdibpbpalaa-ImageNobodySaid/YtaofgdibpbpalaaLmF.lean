/-
  The logical machine, part F: equality; maps.
-/
import Derived.Test.YtaofgdibpbpalaaLmE
import Derived.ChangeKeysEq
namespace Go.Lm

variable {P : Program} {W : World} {keep : Nat → Prop} {ρ : Ren} {g : LHeap} {w : World}

theorem cellsOf_of_sizeL {t : TypeId} {n : Nat} (h : sizeL P t = some n) : P.cellsOf t = n := by
  unfold sizeL at h
  simp only [Program.cellsOf, h, Option.getD_some]
theorem fieldsOf_of {t : TypeId} {fs : Array Field} (h : P.underlying t = some (.struct fs)) : P.fieldsOf t = fs := by simp [Program.fieldsOf, h]

theorem str_eq (a b : List UInt8) : ((⟨a.toArray⟩ : ByteArray).toList == (⟨b.toArray⟩ : ByteArray).toList) = (a == b) := by rw [toList_mk, toList_mk]
theorem str_eq' (a b : List UInt8) : ((⟨a.toArray⟩ : ByteArray) == (⟨b.toArray⟩ : ByteArray)) = (a == b) := by rw [beq_toListBytes, str_eq]

theorem run_partN {t : TypeId} {n : Option Nat} {cs : List LV} {off : Nat} {v : LV} (hn : aggN P t = some n) (h : partL n cs off = some v) (w : World) :
    (part t (toVs ρ cs).toArray off).run P w = .ok (v.toV ρ) w := by
  obtain ⟨d, i, hd, hi, rfl⟩ := aggN_spec hn
  simp only [part]
  rw [run_bind_ok (run_isAgg hd w)]
  unfold partL at h
  by_cases hag : isAggD d = true
  · simp only [hag, if_true] at h ⊢
    cases h
    rw [run_bind_ok (run_sizeOf' hi w), run_pure]
    simp only [LV.toV]
    congr 2
    apply Array.ext'
    simp only [Array.toList_extract, toVs_eq, List.extract_eq_take_drop, List.map_take, List.map_drop]
    congr 1
    omega
  · simp only [hag, Bool.false_eq_true, if_false] at h ⊢
    simp only [List.getElem?_toArray, toVs_getElem?, h, Option.map_some]
    rfl

section forms
variable (w : World) (d : Nat) {t : TypeId}
theorem eqi_pp {e : TypeId} (h : P.underlying t = some (.pointer e)) : (Op.equalIn (d + 1) t (.pointer none) (.pointer none)).run P w = .ok true w := by simp [Op.equalIn, run_underlying' h]
theorem eqi_pq {e : TypeId} (h : P.underlying t = some (.pointer e)) (a : Addr) : (Op.equalIn (d + 1) t (.pointer none) (.pointer (some a))).run P w = .ok false w := by simp [Op.equalIn, run_underlying' h]
theorem eqi_qp {e : TypeId} (h : P.underlying t = some (.pointer e)) (a : Addr) : (Op.equalIn (d + 1) t (.pointer (some a)) (.pointer none)).run P w = .ok false w := by simp [Op.equalIn, run_underlying' h]
theorem eqi_ii {ms : Array (String × TypeId)} (h : P.underlying t = some (.interface ms)) : (Op.equalIn (d + 1) t .nilIface .nilIface).run P w = .ok true w := by simp [Op.equalIn, run_underlying' h]
theorem eqi_ij {ms : Array (String × TypeId)} (h : P.underlying t = some (.interface ms)) (u : TypeId) (v : Value) : (Op.equalIn (d + 1) t .nilIface (.iface u v)).run P w = .ok false w := by simp [Op.equalIn, run_underlying' h]
theorem eqi_ji {ms : Array (String × TypeId)} (h : P.underlying t = some (.interface ms)) (u : TypeId) (v : Value) : (Op.equalIn (d + 1) t (.iface u v) .nilIface).run P w = .ok false w := by simp [Op.equalIn, run_underlying' h]
theorem eqi_jk {ms : Array (String × TypeId)} (h : P.underlying t = some (.interface ms)) {u u' : TypeId} (v v' : Value) (hne : u ≠ u') : (Op.equalIn (d + 1) t (.iface u v) (.iface u' v')).run P w = .ok false w := by simp [Op.equalIn, run_underlying' h, hne]
theorem eqi_jj {ms : Array (String × TypeId)} (h : P.underlying t = some (.interface ms)) {u : TypeId} {i : TypeInfo} (v v' : Value) (hi : P.info? u = some i) (hc : i.comparable = true) :
    (Op.equalIn (d + 1) t (.iface u v) (.iface u v')).run P w = (Op.equalIn d u v v').run P w := by simp [Op.equalIn, run_underlying' h, run_typeInfo hi, hc]
theorem eqi_ss {e : TypeId} (h : P.underlying t = some (.slice e)) (l c l' c' : Nat) : (Op.equalIn (d + 1) t (.slice none l c) (.slice none l' c')).run P w = .ok true w := by simp [Op.equalIn, run_underlying' h]
theorem eqi_sr {e : TypeId} (h : P.underlying t = some (.slice e)) (l c l' c' : Nat) (a : Addr) : (Op.equalIn (d + 1) t (.slice none l c) (.slice (some a) l' c')).run P w = .ok false w := by simp [Op.equalIn, run_underlying' h]
theorem eqi_rs {e : TypeId} (h : P.underlying t = some (.slice e)) (l c l' c' : Nat) (a : Addr) : (Op.equalIn (d + 1) t (.slice (some a) l c) (.slice none l' c')).run P w = .ok false w := by simp [Op.equalIn, run_underlying' h]
theorem eqi_mm {k e : TypeId} (h : P.underlying t = some (.map k e)) : (Op.equalIn (d + 1) t (.map none) (.map none)).run P w = .ok true w := by simp [Op.equalIn, run_underlying' h]
theorem eqi_mn {k e : TypeId} (h : P.underlying t = some (.map k e)) (a : Nat) : (Op.equalIn (d + 1) t (.map none) (.map (some a))).run P w = .ok false w := by simp [Op.equalIn, run_underlying' h]
theorem eqi_nm {k e : TypeId} (h : P.underlying t = some (.map k e)) (a : Nat) : (Op.equalIn (d + 1) t (.map (some a)) (.map none)).run P w = .ok false w := by simp [Op.equalIn, run_underlying' h]
theorem eqi_ff {ps rs : Array TypeId} {v : Bool} (h : P.underlying t = some (.func ps rs v)) : (Op.equalIn (d + 1) t .nilFunc .nilFunc).run P w = .ok true w := by simp [Op.equalIn, run_underlying' h]
theorem eqi_fg {ps rs : Array TypeId} {v : Bool} (h : P.underlying t = some (.func ps rs v)) (f : Fn) (a b : Array Value) : (Op.equalIn (d + 1) t .nilFunc (.func f a b)).run P w = .ok false w := by simp [Op.equalIn, run_underlying' h]
theorem eqi_gf {ps rs : Array TypeId} {v : Bool} (h : P.underlying t = some (.func ps rs v)) (f : Fn) (a b : Array Value) : (Op.equalIn (d + 1) t (.func f a b) .nilFunc).run P w = .ok false w := by simp [Op.equalIn, run_underlying' h]
end forms
theorem slice_toV (ρ : Ren) (a off l : Nat) (c : Cap) : ∃ cp, (LV.slice a off l c).toV ρ = .slice (some (ρ.addr a off)) l cp := by cases c <;> exact ⟨_, rfl⟩

theorem run_eqTy : ∀ (d : Nat),
    (∀ (t : TypeId) (x y : LV) (b : Bool) (m : Nat) (w : World), eqTy P d t x y = some b → (Op.equalIn (d + m) t (x.toV ρ) (y.toV ρ)).run P w = .ok b w) ∧
    (∀ (fs : List Field) (xs ys : List LV) (b : Bool) (m : Nat) (w : World), eqFields P d fs xs ys = some b → (Op.eqFields (d + m) (toVs ρ xs).toArray (toVs ρ ys).toArray fs).run P w = .ok b w) ∧
    (∀ (e : TypeId) (n : Option Nat) (z : Nat) (xs ys : List LV) (is : List Nat) (b : Bool) (m : Nat) (w : World), aggN P e = some n → eqElems P d e n z xs ys is = some b →
      (Op.eqItems (d + m) e z (toVs ρ xs).toArray (toVs ρ ys).toArray is).run P w = .ok b w) := by
  intro d
  induction d with
  | zero => exact ⟨fun t x y b m w h => by simp [eqTy] at h, fun fs xs ys b m w h => by simp [eqFields] at h, fun e n z xs ys is b m w _ h => by simp [eqElems] at h⟩
  | succ d ih =>
    obtain ⟨ih1, ih2, ih3⟩ := ih
    refine ⟨fun t x y b m w h => ?_, fun fs xs ys b m w h => ?_, fun e n z xs ys is b m w hn h => ?_⟩
    · rw [show d + 1 + m = (d + m) + 1 by omega]
      unfold eqTy at h
      split at h
      · rename_i a' b' hd; cases h; exact run_equalIn_bool' w _ _ _ _ hd
      · rename_i k a' k' b' hd
        split at h
        · rename_i hk; subst hk; cases h; exact run_equalIn_int w _ _ _ _ _ _ hd
        · cases h
      · rename_i a' b' hd
        cases h
        simp only [LV.toV]
        rw [run_equalIn_string w _ _ _ _ hd, str_eq]
      · rename_i hd; cases h; exact eqi_pp w _ hd
      · rename_i hd; cases h; exact eqi_pq w _ hd _
      · rename_i hd; cases h; exact eqi_qp w _ hd _
      · rename_i hd; cases h; exact eqi_ii w _ hd
      · rename_i hd; cases h; exact eqi_ij w _ hd _ _
      · rename_i hd; cases h; exact eqi_ji w _ hd _ _
      · rename_i tx vx ty vy hd
        simp only [LV.toV]
        split at h
        · rename_i hne
          cases h
          exact eqi_jk w _ hd _ _ hne
        · rename_i he
          have he := Classical.not_not.1 he
          subst he
          split at h
          · rename_i i hi
            split at h
            · rename_i hcmp
              rw [eqi_jj w _ hd _ _ hi hcmp]
              exact ih1 _ _ _ _ m w h
            · cases h
          · cases h
      · rename_i fields xs ys hd
        simp only [LV.toV]
        split at h
        · cases h
        · rename_i hst
          rw [run_equalIn_struct w _ _ _ _ (by rw [fieldsOf_of hd]; exact hd) (by simpa using hst), fieldsOf_of hd]
          exact ih2 _ _ _ _ _ _ h
      · rename_i len e xs ys hd
        simp only [LV.toV]
        split at h
        · rename_i n z hn hz
          obtain ⟨i, hi, hs⟩ := sizeL_spec hz
          rw [run_equalIn_array w _ _ _ hd hi, cellsOf_of_sizeL hz]
          exact ih3 _ _ _ _ _ _ _ _ _ hn h
        · cases h
      · rename_i hd; cases h; exact eqi_ss w _ hd _ _ _ _
      · rename_i a off l c hd; cases h; obtain ⟨cp, e⟩ := slice_toV ρ a off l c; rw [e]; exact eqi_sr w _ hd _ _ _ _ _
      · rename_i hd; cases h; exact eqi_sr w _ hd _ _ _ _ _
      · rename_i a off l c hd; cases h; obtain ⟨cp, e⟩ := slice_toV ρ a off l c; rw [e]; exact eqi_rs w _ hd _ _ _ _ _
      · rename_i hd; cases h; exact eqi_rs w _ hd _ _ _ _ _
      · rename_i hd; cases h; exact eqi_mm w _ hd
      · rename_i hd; cases h; exact eqi_mn w _ hd _
      · rename_i hd; cases h; exact eqi_nm w _ hd _
      · rename_i hd; cases h; exact eqi_ff w _ hd
      · rename_i hd; cases h; exact eqi_fg w _ hd _ _ _
      · rename_i hd; cases h; exact eqi_gf w _ hd _ _ _
      · cases h
    · rw [show d + 1 + m = d + (m + 1) by omega]
      unfold eqFields at h
      cases fs with
      | nil => simp at h; subst h; simp [Op.eqFields]
      | cons f fs =>
        simp only at h
        simp only [Op.eqFields]
        split at h
        · rename_i hf
          simp only [ne_eq, hf, not_true_eq_false, if_false]
          exact ih2 _ _ _ _ (m + 1) w h
        · rename_i hf
          simp only [ne_eq, hf, not_false_eq_true, if_true]
          split at h
          · rename_i n hn
            split at h
            · rename_i a b' ha hb
              simp only [Sem.run_bind, run_partN hn ha, run_partN hn hb, Result.andThen_ok]
              split at h
              · rename_i he
                rw [ih1 _ _ _ _ (m + 1) w he]
                simp only [Result.andThen_ok, Bool.not_true, Bool.false_eq_true, if_false]
                exact ih2 _ _ _ _ (m + 1) w h
              · rename_i he
                cases h
                rw [ih1 _ _ _ _ (m + 1) w he]
                simp
              · cases h
            · cases h
          · cases h
    · rw [show d + 1 + m = d + (m + 1) by omega]
      unfold eqElems at h
      cases is with
      | nil => simp at h; subst h; simp [Op.eqItems]
      | cons i is =>
        simp only at h
        simp only [Op.eqItems]
        split at h
        · rename_i a b' ha hb
          simp only [Sem.run_bind, run_partN hn ha, run_partN hn hb, Result.andThen_ok]
          split at h
          · rename_i he
            rw [ih1 _ _ _ _ (m + 1) w he]
            simp only [Result.andThen_ok, Bool.not_true, Bool.false_eq_true, if_false]
            exact ih3 _ _ _ _ _ _ _ (m + 1) w hn h
          · rename_i he
            cases h
            rw [ih1 _ _ _ _ (m + 1) w he]
            simp
          · cases h
        · cases h

theorem run_equal {t : TypeId} {x y : LV} {b : Bool} (h : eqTy P 60 t x y = some b) (w : World) : (Op.equal t (x.toV ρ) (y.toV ρ)).run P w = .ok b w := by
  have := (run_eqTy (P := P) (ρ := ρ) 60).1 t x y b 9940 w h
  simpa [Op.equal, Op.maxDepth] using this

end Go.Lm
