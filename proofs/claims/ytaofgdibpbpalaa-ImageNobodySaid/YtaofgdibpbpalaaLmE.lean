/-
  The logical machine, part E: cutting slices and texts; arithmetic; equality.
-/
import Derived.Test.YtaofgdibpbpalaaLmD
import Derived.Laws.Strings
namespace Go.Lm

variable {P : Program} {W : World} {keep : Nat → Prop} {ρ : Ren} {g : LHeap} {w : World}

/-! ### Cutting -/
theorem run_sliceBound {v : Value} {k : IntKind} {i : Int} {y : Nat} {c : BoundsCode} (hv : v = .int k i) (h0 : 0 ≤ i) (h1 : i ≤ y) (w : World) :
    (Instr.sliceBound v y c).run P w = .ok i.toNat w := by
  subst hv
  simp only [Instr.sliceBound]
  rw [run_bind_ok (run_asIntOf k i w)]
  simp only [h0, h1, and_self, if_true]
  rfl
theorem optInt_spec {x : Option LV} {r : Option Int} (h : optInt x = some r) : (x = none ∧ r = none) ∨ ∃ k i, x = some (.int k i) ∧ r = some i := by
  unfold optInt at h
  split at h
  · cases h; exact .inl ⟨rfl, rfl⟩
  · rename_i v
    unfold intL at h
    split at h
    · rename_i k i
      simp at h; subst h; exact .inr ⟨k, i, rfl, rfl⟩
    · simp at h
theorem run_sliceBounds {b : Bool} {len cap : Nat} {lo hi mx : Option LV} {l h m : Option Int} (h1 : optInt lo = some l) (h2 : optInt hi = some h) (h3 : optInt mx = some m)
    (b0 : 0 ≤ l.getD 0) (b1 : l.getD 0 ≤ h.getD len) (b2 : h.getD len ≤ m.getD cap) (b3 : m.getD cap ≤ cap) (b4 : m.isSome = true → h.isSome = true) (w : World) :
    (Instr.sliceBounds b len cap (lo.map (LV.toV ρ)) (hi.map (LV.toV ρ)) (mx.map (LV.toV ρ))).run P w = .ok ((l.getD 0).toNat, (h.getD len).toNat, (m.getD cap).toNat) w := by
  rcases optInt_spec h1 with ⟨rfl, rfl⟩ | ⟨k1, i1, rfl, rfl⟩ <;> rcases optInt_spec h2 with ⟨rfl, rfl⟩ | ⟨k2, i2, rfl, rfl⟩ <;> rcases optInt_spec h3 with ⟨rfl, rfl⟩ | ⟨k3, i3, rfl, rfl⟩ <;>
    simp only [Option.getD_none, Option.getD_some, Option.map_none, Option.map_some, Option.isSome_some, Option.isSome_none, LV.toV] at *
  · simp only [Instr.sliceBounds]
    rw [run_bind_ok (run_pure P _ w), run_bind_ok (run_pure P _ w), run_bind_ok (run_pure P _ w)]; simp
  · exact absurd (b4 trivial) (by simp)
  · simp only [Instr.sliceBounds]
    rw [run_bind_ok (run_pure P _ w), run_bind_ok (run_sliceBound rfl (by omega) (by omega) w), run_bind_ok (run_pure P _ w)]; simp
  · simp only [Instr.sliceBounds]
    rw [run_bind_ok (run_sliceBound rfl (by omega) b3 w), run_bind_ok (run_sliceBound rfl (by omega) (by omega) w), run_bind_ok (run_pure P _ w)]; simp
  · simp only [Instr.sliceBounds]
    rw [run_bind_ok (run_pure P _ w), run_bind_ok (run_pure P _ w), run_bind_ok (run_sliceBound rfl (by omega) (by omega) w)]; simp
  · exact absurd (b4 trivial) (by simp)
  · simp only [Instr.sliceBounds]
    rw [run_bind_ok (run_pure P _ w), run_bind_ok (run_sliceBound rfl (by omega) (by omega) w), run_bind_ok (run_sliceBound rfl (by omega) (by omega) w)]; simp
  · simp only [Instr.sliceBounds]
    rw [run_bind_ok (run_sliceBound rfl (by omega) b3 w), run_bind_ok (run_sliceBound rfl (by omega) (by omega) w), run_bind_ok (run_sliceBound rfl b0 (by omega) w)]; simp

theorem div_sub {c o l e : Nat} : (c - (o + l * e)) / e = (c - o) / e - l := by
  rw [Nat.sub_add_eq, Nat.mul_comm, Nat.sub_mul_div]
theorem cap_ge {c o l e : Nat} (he : 0 < e) (h : o + l * e ≤ c) : l ≤ (c - o) / e := by
  rw [Nat.le_div_iff_mul_le he]; omega

/-- What is said to be room is room. -/
def LimOk (ρ : Ren) (x : LV) (lim : Nat) : Prop := ∀ a off len e, x = .slice a off len (.op e) → off + lim * e ≤ ρ.cap a
theorem sim_cutSlice {t et : TypeId} {lim : Nat} {z : Nat} {x v : LV} {lo hi mx : Option LV} {l h m : Option Int} {n : Nat} (hd : P.underlying t = some (.slice et)) (hz : sizeL P et = some z) (hz0 : 0 < z)
    (h1 : optInt lo = some l) (h2 : optInt hi = some h) (h3 : optInt mx = some m) (hx : x.ok ρ n) (hlim : LimOk ρ x lim) (hc : cutL z x l h m lim = some v) :
    Yields1 P ρ n w (Instr.slice t (x.toV ρ) (lo.map (LV.toV ρ)) (hi.map (LV.toV ρ)) (mx.map (LV.toV ρ))) v := by
  have key : ∀ (a : Option Addr) (len cap : Nat), 0 ≤ l.getD 0 → l.getD 0 ≤ h.getD len → h.getD len ≤ m.getD cap → m.getD cap ≤ cap → (m.isSome = true → h.isSome = true) →
      (Instr.slice t (.slice a len cap) (lo.map (LV.toV ρ)) (hi.map (LV.toV ρ)) (mx.map (LV.toV ρ))).run P w =
        .ok (.slice (if (m.getD cap).toNat = (l.getD 0).toNat then a else a.map (·.add ((l.getD 0).toNat * z))) ((h.getD len).toNat - (l.getD 0).toNat) ((m.getD cap).toNat - (l.getD 0).toNat)) w := by
    intro a len cap b0 b1 b2 b3 b4
    simp only [Instr.slice]
    rw [run_bind_ok (run_underlying' hd w)]
    simp only
    rw [run_bind_ok (run_sliceBounds h1 h2 h3 b0 b1 b2 b3 b4 w)]
    simp only
    rw [run_bind_ok (run_sizeL hz w)]
    rfl
  unfold cutL at hc
  split at hc
  · split at hc
    · rename_i hb
      cases hc
      refine ⟨?_, by simp [LV.ok]⟩
      obtain ⟨b0, b1, b2, b3⟩ := hb
      simp only [LV.toV]
      rw [key none 0 0 (by omega) (by simp; omega) (by simp; omega) (by simp; omega) b3]
      simp [b0, b1, b2]
    · cases hc
  · rename_i a off len cap
    split at hc
    · rename_i hb
      obtain ⟨b0, b1⟩ := hb
      unfold cutS at hc
      split at hc
      · rename_i m' c
        split at hc
        · rename_i hb2
          obtain ⟨s1, s2, s3⟩ := hb2
          cases hc
          simp only [LV.ok] at hx
          refine ⟨?_, by simp only [LV.ok]; exact ⟨hx.1, by omega⟩⟩
          simp only [LV.toV]
          rw [key _ len c b0 b1 (by simpa using s2) (by simpa using s3) (fun _ => s1)]
          simp only [Option.getD_some]
          congr 2
          · by_cases e : m' = l.getD 0
            · rw [if_pos (by omega), if_pos e]
            · rw [if_neg (by omega), if_neg e, Option.map_some, addr_add]
          · omega
          · omega
        · cases hc
      · rename_i c
        split at hc
        · rename_i hb2
          cases hc
          simp only [LV.ok] at hx
          refine ⟨?_, by simp only [LV.ok]; exact ⟨hx.1, by omega⟩⟩
          simp only [LV.toV]
          rw [key _ len c b0 b1 (by simpa using hb2) (by simp) (by simp)]
          simp only [Option.getD_none]
          congr 2
          · by_cases e : (c : Int) = l.getD 0
            · rw [if_pos (by omega), if_pos e]
            · rw [if_neg (by omega), if_neg e, Option.map_some, addr_add]
          · omega
          · omega
        · cases hc
      · rename_i m' e'
        split at hc
        · rename_i hb2
          obtain ⟨s1, s2, s3, rfl⟩ := hb2
          cases hc
          simp only [LV.ok] at hx
          obtain ⟨hx1, hx2, hx3, hxs⟩ := hx
          have hcap := cap_ge hx2 hx3
          refine ⟨?_, by simp only [LV.ok]; exact ⟨hx1, by omega⟩⟩
          simp only [LV.toV]
          rw [key _ len _ b0 b1 (by simpa using s2) (by simp only [Option.getD_some]; omega) (fun _ => s1)]
          simp only [Option.getD_some]
          congr 2
          · by_cases e : m' = l.getD 0
            · rw [if_pos (by omega), if_pos e]
            · rw [if_neg (by omega), if_neg e, Option.map_some, addr_add]
          · omega
          · omega
        · cases hc
      · rename_i e'
        split at hc
        · rename_i hb2
          obtain ⟨s1, rfl⟩ := hb2
          simp only [LV.ok] at hx
          obtain ⟨hx1, hx2, hx0, hxs⟩ := hx
          have hx3 : off + max len lim * e' ≤ ρ.cap a := by
            rcases Nat.le_total len lim with hh | hh
            · rw [Nat.max_eq_right hh]; exact hlim a off len e' rfl
            · rw [Nat.max_eq_left hh]; exact hx0
          generalize max len lim = big at s1 hx3 hc
          have hcap := cap_ge hx2 hx3
          split at hc
          · rename_i hl
            cases hc
            refine ⟨?_, ?_⟩
            · simp only [LV.toV]
              rw [key _ len _ b0 b1 (by simp only [Option.getD_none]; omega) (by simp) (by simp)]
              simp only [Option.getD_none]
              congr 2
              · rw [if_neg (by omega), Option.map_some, addr_add]
              · omega
              · rw [div_sub]; omega
            · simp only [LV.ok]
              refine ⟨hx1, hx2, Nat.le_trans ?_ hx3, hxs⟩
              rw [Nat.add_assoc, ← Nat.add_mul]
              exact Nat.add_le_add_left (Nat.mul_le_mul_right _ (by omega)) _
          · rename_i hl
            cases hc
            have hll : l.getD 0 = big := by omega
            have hhl : h.getD len = big := by omega
            refine ⟨?_, ?_⟩
            · simp only [LV.toV]
              rw [key _ len _ b0 b1 (by simp only [Option.getD_none]; omega) (by simp) (by simp)]
              simp only [Option.getD_none, hll, hhl, Int.toNat_natCast, Nat.sub_self]
              rw [div_sub]
              congr 2
              simp only [Ren.taddr, Bool.false_eq_true, if_false]
              by_cases e : (ρ.cap a - off) / e' = big
              · rw [if_pos e, if_pos (by omega)]
              · rw [if_neg e, if_neg (by omega), Option.map_some, addr_add]
            · simp only [LV.ok]
              rw [hll]
              exact ⟨hx1, hx2, by simpa using hx3, fun _ => hxs⟩
        · cases hc
    · cases hc
  · rename_i a off alt e' zz
    split at hc
    · rename_i hb
      cases hc
      simp only [LV.ok] at hx
      refine ⟨?_, by simp only [LV.ok]; exact ⟨hx.1, hx.2.1, hx.2.2.1, fun e => hx.2.2.2 (by simp at e; exact e.1)⟩⟩
      obtain ⟨b0, b1, b2, b3⟩ := hb
      have two : ∀ (A : Addr) (cp : Nat), 0 ≤ m.getD cp → m.getD cp ≤ cp → (m.getD cp).toNat = (if m.isSome then 0 else cp) →
          (Instr.slice t (.slice (some A) 0 cp) (lo.map (LV.toV ρ)) (hi.map (LV.toV ρ)) (mx.map (LV.toV ρ))).run P w = .ok (.slice (some A) 0 (if m.isSome then 0 else cp)) w := by
        intro A cp c0 c1 c2
        rw [key _ 0 cp (by omega) (by simp; omega) (by rw [show (((0 : Nat) : Int)) = 0 from rfl, b1]; exact c0) c1 b3]
        rw [show (((0 : Nat) : Int)) = 0 from rfl, b0, b1, c2]
        simp [Addr.add]
      cases zz with
      | true =>
        simp only [LV.toV, Bool.true_or, if_true]
        rw [two _ 0 (by cases m <;> simp_all) (by cases m <;> simp_all) (by cases m <;> simp_all)]
        simp
      | false =>
        have hsp := hx.2.2.2 rfl
        cases m with
        | none =>
          simp only [LV.toV, Bool.false_or, Option.isSome_none, Bool.false_eq_true, if_false]
          rw [two _ _ (Int.natCast_nonneg _) (Int.le_refl _) (Int.toNat_natCast _)]
          simp
        | some m =>
          simp only [Option.getD_some] at b2
          subst b2
          simp only [LV.toV, Bool.false_or, Option.isSome_some, Bool.false_eq_true, if_false, if_true]
          rw [two _ _ (Int.le_refl _) (Int.natCast_nonneg _) rfl]
          simp only [Ren.taddr, if_true, Bool.false_eq_true, if_false, Ren.zaddr_none hsp]
          simp
    · cases hc
  · cases hc

theorem limL_ok {W : World} {keep : Nat → Prop} {g : LHeap} {x : LV} (h : Rel W keep ρ g w) (hx : x.ok ρ g.next) : LimOk ρ x (limL x g) := by
  intro a off len e hxe
  subst hxe
  obtain ⟨h1, h2, h3, _⟩ := hx
  have hle : off ≤ ρ.cap a := Nat.le_trans (Nat.le_add_right _ _) h3
  simp only [limL]
  split
  · rename_i vs hg
    obtain ⟨_, _, _, C, ty, fz, _, k1, _, _, k2⟩ := h.obj a _ hg
    have := k2 rfl
    have h4 : vs.length ≤ ρ.cap a := by omega
    by_cases ho : off ≤ vs.length
    · have := Nat.div_mul_le_self (vs.length - off) e
      omega
    · rw [Nat.sub_eq_zero_of_le (by omega), Nat.zero_div]; omega
  · omega

theorem sim_cut {t : TypeId} {x v : LV} {lo hi mx : Option LV} {n lim : Nat} (hx : x.ok ρ n) (hlim : LimOk ρ x lim) (hc : cutT P t x lo hi mx lim = some v) :
    Yields1 P ρ n w (Instr.sliceAt t (x.toV ρ) (lo.map (LV.toV ρ)) (hi.map (LV.toV ρ)) (mx.map (LV.toV ρ))) v := by
  unfold cutT at hc
  split at hc
  · rename_i l h m h1 h2 h3
    split at hc
    · rename_i hd
      split at hc
      · cases hc
      · rename_i hm
        have hm0 : mx = none := by
          rcases optInt_spec h3 with ⟨e, _⟩ | ⟨k, i, _, e⟩
          · exact e
          · rw [e] at hm; simp at hm
        subst hm0
        unfold cutStrL at hc
        split at hc
        · rename_i s
          split at hc
          · rename_i hb
            cases hc
            refine ⟨?_, by simp [LV.ok]⟩
            simp only [LV.toV, Instr.sliceAt]
            rw [run_bind_ok (run_underlying' hd w)]
            simp only [Instr.slice]
            rw [run_bind_ok (run_underlying' hd w)]
            simp only [Option.map_none, Option.isSome_none, Bool.false_eq_true, if_false]
            have hsz : (⟨s.toArray⟩ : ByteArray).size = s.length := by simp [ByteArray.size]
            have := run_sliceBounds (P := P) (ρ := ρ) (b := false) (len := s.length) (cap := s.length) h1 h2 h3 hb.1 hb.2.1 (by
              rcases optInt_spec h3 with ⟨_, e⟩ | ⟨k, i, e, _⟩
              · subst e; simpa using hb.2.2
              · cases e) (by
              rcases optInt_spec h3 with ⟨_, e⟩ | ⟨k, i, e, _⟩
              · subst e; simp
              · cases e) (by
              rcases optInt_spec h3 with ⟨_, e⟩ | ⟨k, i, e, _⟩
              · subst e; simp
              · cases e) w
            rw [hsz]
            simp only [Option.map_none] at this
            rw [run_bind_ok this]
            simp only [run_pure]
            congr 2
            apply ByteArray.ext
            rw [ByteArray.data_extract]
            apply Array.ext'
            simp [List.extract_eq_take_drop, List.drop_take]
          · cases hc
        · cases hc
    · rename_i e hd
      split at hc
      · rename_i z hz
        split at hc
        · cases hc
        · rename_i hz0
          obtain ⟨r1, r2⟩ := sim_cutSlice (P := P) (w := w) hd hz (by omega) h1 h2 h3 hx hlim hc
          refine ⟨?_, r2⟩
          simp only [Instr.sliceAt]
          rw [run_bind_ok (run_underlying' hd w)]
          exact r1
      · cases hc
    · rename_i n' e hd
      split at hc
      · rename_i z hz
        unfold cutArrL at hc
        split at hc
        · rename_i a off
          split at hc
          · rename_i hb
            obtain ⟨b0, b1, b2, b3, b4⟩ := hb
            cases hc
            refine ⟨?_, ?_⟩
            · simp only [LV.toV, Instr.sliceAt]
              rw [run_bind_ok (run_underlying' hd w)]
              simp only
              rw [run_bind_ok (show (Instr.sureAddr (.pointer (some (ρ.addr a off)))).run P w = .ok (ρ.addr a off) w from rfl)]
              rw [run_bind_ok (run_sliceBounds h1 h2 h3 b0 b1 b2 b3 b4 w)]
              simp only
              rw [run_bind_ok (run_sizeL hz w), run_pure]
              congr 2
              · by_cases e : m.getD n' = l.getD 0
                · rw [if_pos (by omega), if_pos e]
                · rw [if_neg (by omega), if_neg e, addr_add]
              · omega
              · omega
            · simp only [LV.ok] at hx ⊢
              exact ⟨hx, by omega⟩
          · cases hc
        · cases hc
      · cases hc
    · cases hc
  · cases hc

/-! ### Arithmetic -/
theorem ofPure_spec {s : Sem Value} {v : LV} (h : ofPure s = some v) (ρ : Ren) (n : Nat) (w : World) : Yields1 P ρ n w s v := by
  unfold ofPure at h
  split at h
  · cases h; exact ⟨rfl, by simp [LV.ok]⟩
  · cases h; exact ⟨rfl, by simp [LV.ok]⟩
  · cases h; exact ⟨by simp [LV.toV, Sem.run], by simp [LV.ok]⟩
  · cases h
theorem sim_un {op : UnOp} {x v : LV} (h : unL op x = some v) (ρ : Ren) (n : Nat) (w : World) : Yields1 P ρ n w (Op.unary op (x.toV ρ)) v := by
  unfold unL at h
  split at h
  · exact ofPure_spec h ρ n w
  · exact ofPure_spec h ρ n w
  · cases h

theorem toList_mk (s : List UInt8) : (⟨s.toArray⟩ : ByteArray).toList = s := by rw [ByteArray.toList_eq]

end Go.Lm
