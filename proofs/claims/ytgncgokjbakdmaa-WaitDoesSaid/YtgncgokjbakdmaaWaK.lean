/-
  waitq's reference: Cancel, Wake, Sleep.
-/
import Derived.Test.YtgncgokjbakdmaaWaJ
set_option linter.all false
namespace Go.Proofs.Ytgncgokjbakdmaa
open Go.ChangeShapes Go.WideShapes Go.ChangeAt Go.RowKit Go.Lm
set_option linter.unusedSimpArgs false
set_option linter.unusedVariables false
set_option maxRecDepth 10000
/-- The reference's queue. -/
def RqD (r : Nat) (s : List Seat) (Ts : List Thing) : Prop := ∃ V, Ts = [Thing.cells r [V], Thing.vec seatE V s]
abbrev RqBox (r : Nat) (S : Nat → Prop) (s : List Seat) : Thing := Thing.box (RqD r) S s
section
variable {F : Nat → Prop} {g h : LHeap} {r : Nat} {V W : LV} {s s' : List Seat} {S : Nat → Prop} {Ts Zs : List Thing}
theorem rq_put (Sp : Sep F g h ([Thing.cells r [V], Thing.vec seatE V s] ++ [Thing.vec seatE W s'])) : storeV 1 (.ptr r 0) W h = some (h.set r (.cells [W] .ex)) ∧ Sep F g (h.set r (.cells [W] .ex)) [Thing.cells r [W], Thing.vec seatE W s'] ∧ h.get r = some (.cells [V] .ex) := by
  have RW := Sp.row (E := seatE) (V := W) (l := s') 2 rfl
  have S1 := Sp.move (i := 1) (T := Thing.vec seatE V s) rfl
  have x0 : h.get r = some (.cells [V] .ex) := S1.cell 0 rfl
  have S2 := S1.store 0 rfl [W]
  exact ⟨by rw [store_o _ _ _ RW.cell, x0]; rfl, S2, x0⟩
theorem cancelS_snoc {j : Nat} {p : Seat} (hp : s[j]? = some p) (t : Int) : cancelS (s.take (j + 1)) t = cancelS (s.take j) t ++ if p.1 = t then [] else [p] := by
  rw [take_snoc hp]
  unfold cancelS
  rw [List.filter_append]
  congr 1
  by_cases h1 : p.1 = t
  · simp [h1]
  · simp [h1]
theorem cancelS_len (s : List Seat) (t : Int) : (cancelS s t).length ≤ s.length := List.length_filter_le _ _
theorem cancelS_lt (s : List Seat) (t : Int) : ((cancelS s t).length < s.length) ↔ ∃ p ∈ s, p.1 = t := by
  constructor
  · intro h
    by_cases he : ∃ p ∈ s, p.1 = t
    · exact he
    · have : cancelS s t = s := by
        unfold cancelS
        rw [List.filter_eq_self]
        intro p hp
        have : p.1 ≠ t := fun e => he ⟨p, hp, e⟩
        simpa using this
      rw [this] at h; omega
  · rintro ⟨p, hp, e⟩
    have := cancelS_len s t
    refine Nat.lt_of_le_of_ne this fun e' => ?_
    have := (List.filter_eq_self.1 (List.filter_sublist.eq_of_length e')) p hp
    simp [e] at this
theorem bs73_p (h : LHeap) (p : Seat) : buildSliceL Try.prog 73 1 [(0, .agg (seatE.f p))] h = some (.slice h.next 0 1 (.ex 1), h.alloc (.cells (seatE.f p) .ex)) := bs73_1 h p.1 p.2.1.1 p.2.1.2.1 p.2.1.2.2 p.2.2
set_option maxHeartbeats 1000000 in
/-- Cancel. -/
theorem rcancel_ok (B : (RqBox r S s).ok g) (lt : ∀ b, S b → b < g.next) (hs : s.length ≤ 4096) (t : Int) : Ok Try.prog 63 [.ptr r 0, i t] g fun v h => v = .bool (decide (∃ p ∈ s, p.1 = t)) ∧ After (RqD r) S g h (cancelS s t) := by
  obtain ⟨_, ⟨V, rfl⟩, Sp0⟩ := box_open B lt
  refine ok63 fun wf _ => ?_
  have x := Sp0.cell (a := r) (vs := [V]) 0 rfl
  have R := Sp0.row (E := seatE) (V := V) (l := s) 1 rfl
  have hlen := fun g' => R.len (P := Try.prog) ty73 (g' := g')
  simp (disch := omega) only [F63, J63_0, J63_1, J63_3, i, sh, sh2, x, b_len, hlen]
  refine loop_n (fun n (st : LV × LV) h => ∃ (j : Nat) (W : LV), st = (W, i (j : Int)) ∧ j + n = s.length ∧ Sep S g h [Thing.cells r [V], Thing.vec seatE V s, Thing.vec seatE W (cancelS (s.take j) t)]) (n := s.length) ⟨0, .nils, rfl, by omega, by simpa [cancelS] using Sp0.nils seatE⟩ ?_
  rintro n st h ⟨j, W, rfl, hj, Sp⟩
  have x1 := Sp.cell (a := r) (vs := [V]) 0 rfl
  have Rh := Sp.row (E := seatE) (V := V) (l := s) 1 rfl
  cases n with
  | zero =>
    obtain rfl : j = s.length := by omega
    rw [List.take_length] at Sp
    obtain ⟨e1, S1, _⟩ := rq_put Sp
    have hlW := fun g' => (Sp.row (E := seatE) (V := W) (l := cancelS s t) 2 rfl).len (P := Try.prog) ty73 (g' := g')
    have key : (decide (((cancelS s t).length : Int) < (s.length : Int))) = decide (∃ p ∈ s, p.1 = t) := by
      rw [decide_eq_decide, ← cancelS_lt]; omega
    have fin : After (RqD r) S g (h.set r (.cells [W] .ex)) (cancelS s t) := S1.after ⟨W, rfl⟩
    by_cases hc : (cancelS s t).length < s.length
    · have hc' := (cancelS_lt s t).1 hc
      rw [decide_eq_true hc']
      simp (disch := omega) only [L63_4, J63_2, i, sh, sh2, shi, dec, x1, b_len, hlen, hlW, e1]
      exact ⟨trivial, fin⟩
    · have hc' := mt (cancelS_lt s t).2 hc
      rw [decide_eq_false hc']
      simp (disch := omega) only [L63_4, J63_2, i, sh, sh2, shi, dec, x1, b_len, hlen, hlW, e1]
      exact ⟨trivial, fin⟩
  | succ n =>
    obtain ⟨p, hp, _⟩ := drop_at (l := s) (k := j) (by omega)
    have ix := Rh.ix (k := .i64) (i := j) (by omega)
    have ld := Rh.ld hp
    have e5 : seatE.e = 5 := rfl
    rw [e5] at ix ld
    obtain ⟨N, w1, w2⟩ := new_st5 h p
    obtain ⟨c0, c1, c2, c3⟩ := seat_c p
    have f0 : (seatE.f p)[0]? = some (.int .i64 p.1) := rfl
    have xc : (h.alloc (.cells (seatE.f p) .ex)).get h.next = some (.cells (seatE.f p) .ex) := get_alloc_eq _ _
    have S3 := Sp.temp (.cells (seatE.f p) .ex)
    have sn := cancelS_snoc hp t
    have l2 := cancelS_len (s.take j) t
    have l3 : (s.take j).length ≤ s.length := by rw [List.length_take]; omega
    by_cases h1 : p.1 = t
    · rw [if_pos h1, List.append_nil] at sn
      simp (disch := omega) only [L63_4, i, sh, sh2, shi, dec, ix, ld, shc, w1, w2, xc, c0, f0]
      exact ⟨n, by omega, j + 1, W, by simp, by omega, by rw [sn]; exact S3⟩
    · rw [if_neg h1] at sn
      obtain ⟨V', h', e, S4, c4, _⟩ := S3.push (E := seatE) (V := W) (l := cancelS (s.take j) t) 2 rfl (bytes := 40) p (cs := seatE.f p) rfl (by omega)
      have e : appendL 5 40 W _ _ = _ := e
      have bs := bs73_p (h.alloc (.cells (seatE.f p) .ex)) p
      have ap := ap73 (V := W) (U := .slice (h.alloc (.cells (seatE.f p) .ex)).next 0 1 (.ex 1)) rfl ((h.alloc (.cells (seatE.f p) .ex)).alloc (.cells (seatE.f p) .ex))
      rw [e] at ap
      simp (disch := omega) only [L63_4, i, sh, sh2, shi, dec, ix, ld, w1, w2, xc, c0, f0, c3, bs, ap]
      exact ⟨n, by omega, j + 1, V', by simp, by omega, by rw [sn]; exact S4⟩
/-- Whom a wake takes. -/
def goneS (s : List Seat) (w : List Int) : List Seat := s.filter fun p => !decide (p.1 ∈ w)
theorem goneS_snoc {w : List Int} {j : Nat} {t : Int} (ht : w[j]? = some t) : goneS s (w.take (j + 1)) = cancelS (goneS s (w.take j)) t := by
  unfold goneS cancelS
  rw [List.filter_filter, take_snoc ht]
  refine List.filter_congr fun p _ => ?_
  by_cases h1 : p.1 = t <;> by_cases h2 : p.1 ∈ w.take j <;> simp [h1, h2]
theorem goneS_len (s : List Seat) (w : List Int) : (goneS s w).length ≤ s.length := List.length_filter_le _ _
set_option maxHeartbeats 1000000 in
/-- Wake. -/
theorem rwake_ok (B : (RqBox r S s).ok g) (lt : ∀ b, S b → b < g.next) (hs : s.length ≤ 4096) (c : Chan) (k0 : Int) :
    Ok Try.prog 62 [.ptr r 0, .agg (chanE.f c), i k0] g fun v h => Row h v intE ((slS s c).take k0.toNat) ∧ (∀ b, v.obj = some b → g.next ≤ b ∧ b < h.next) ∧ After (RqD r) S g h (goneS s ((slS s c).take k0.toNat)) := by
  refine ok62 fun wf _ => ?_
  have hn : newL (.agg (chanE.f c)) g = some (.ptr g.next 0, g.alloc (.cells (chanE.f c) .ex)) := new_agg _ _ (chanE.cell c)
  have xn : (g.alloc (.cells (chanE.f c) .ex)).get g.next = some (.cells (chanE.f c) .ex) := get_alloc_eq _ _
  have lt1 : ∀ b, S b → b < (g.alloc (.cells (chanE.f c) .ex)).next := fun b hb => Nat.lt_succ_of_lt (lt b hb)
  have B1 : (RqBox r S s).ok (g.alloc (.cells (chanE.f c) .ex)) := (RqBox r S s).up _ _ (fun a ha => get_alloc_ne _ _ (Nat.ne_of_lt (lt a ha))) B
  have f1 : Fr noF g (g.alloc (.cells (chanE.f c) .ex)) := Fr.alloc _ _
  simp (disch := omega) only [F62, J62_0, J62_1, i, sh, sh2, hn, xn, chan_cell]
  generalize g.alloc (.cells (chanE.f c) .ex) = g1 at *
  obtain ⟨_, ⟨V, rfl⟩, Sp0⟩ := box_open B1 lt1
  refine (rsl_ok (Sp0.cell (a := r) (vs := [V]) 0 rfl) (Sp0.row (E := seatE) (V := V) (l := s) 1 rfl) hs c).mono ?_
  intro U h1 SU
  have RU := SU.row (E := intE) (V := U) (l := slS s c) 0 rfl
  have ltU : ∀ b, U.obj = some b → g1.next ≤ b ∧ b < h1.next := fun b hb => ⟨SU.ge (T := Thing.vec intE U (slS s c)) 0 rfl hb, SU.lt (T := Thing.vec intE U (slS s c)) 0 rfl hb⟩
  have hlU := fun g' => RU.len (P := Try.prog) ty24 (g' := g')
  have hsl := slS_len s c
  simp (disch := omega) only [i, sh, sh2, b_len, hlU, J62_6]
  refine loop_n (fun n (st : LV × LV) h => ∃ (j : Nat) (W : LV), st = (W, i (j : Int)) ∧ j + n = (slS s c).length ∧ Sep noF h1 h [Thing.vec intE W (((slS s c).take j).take k0.toNat)]) (n := (slS s c).length) ⟨0, .nils, rfl, by omega, by simpa using (Sep.start noF h1).nils intE⟩ ?_
  rintro n st h ⟨j, W, rfl, hj, Sp⟩
  have RUh : Row h U intE (slS s c) := RU.fr fun b hb => Sp.fr.eq b (ltU b hb).2 id
  have RW := Sp.row (E := intE) (V := W) (l := ((slS s c).take j).take k0.toNat) 0 rfl
  have hlW := fun g' => RW.len (P := Try.prog) ty24 (g' := g')
  have lW : (((slS s c).take j).take k0.toNat).length = min k0.toNat j := by rw [List.length_take, List.length_take]; omega
  cases n with
  | zero =>
    obtain rfl : j = (slS s c).length := by omega
    rw [List.take_length] at Sp RW hlW lW
    generalize hw : (slS s c).take k0.toNat = w at *
    have ltW : ∀ b, W.obj = some b → h1.next ≤ b ∧ b < h.next := fun b hb => ⟨Sp.ge (T := Thing.vec intE W w) 0 rfl hb, Sp.lt (T := Thing.vec intE W w) 0 rfl hb⟩
    simp (disch := omega) only [L62_7, J62_2, J62_4, i, sh, sh2, shi, dec, b_len, hlW]
    have fh : Fr noF g1 h := SU.fr.trans Sp.fr
    have le1 := f1.le
    have le2 := SU.fr.le
    have le3 := Sp.fr.le
    refine loop_n (fun n (st : LV) h' => ∃ (j : Nat), st = i (j : Int) ∧ j + n = w.length ∧ Fr S h h' ∧ ∃ S', (RqBox r S' (goneS s (w.take j))).ok h' ∧ ∀ a, S' a → (S a ∨ h.next ≤ a) ∧ a < h'.next) (n := w.length) ⟨0, rfl, by omega, Fr.refl _ _, S, by
      have e : goneS s (w.take 0) = s := by simp [goneS]
      rw [e]
      exact (RqBox r S s).up _ _ (fun a ha => fh.eq a (lt1 a ha) id) B1, fun a ha => ⟨.inl ha, by have := lt1 a ha; omega⟩⟩ ?_
    rintro n st h' ⟨j, rfl, hj, fS, S', BS, nS⟩
    have RW' : Row h' W intE w := RW.fr fun b hb => fS.eq b (ltW b hb).2 fun hS => by have := (ltW b hb).1; have := lt b hS; omega
    have le4 := fS.le
    cases n with
    | zero =>
      obtain rfl : j = w.length := by omega
      rw [List.take_length] at BS
      simp (disch := omega) only [L62_5, J62_3, i, sh, sh2, shi, dec]
      refine ⟨RW', fun b hb => ⟨by have := (ltW b hb).1; omega, Nat.lt_of_lt_of_le (ltW b hb).2 fS.le⟩, S', BS, ?_, fun a ha => ⟨(nS a ha).1.imp id (by omega), (nS a ha).2⟩⟩
      exact ((f1.trans fh).mono fun _ _ => False.elim).trans fS
    | succ n =>
      obtain ⟨t, ht, _⟩ := drop_at (l := w) (k := j) (by omega)
      have ix := RW'.ix (k := .i64) (i := j) (by omega)
      have ld := RW'.ld1 ht rfl rfl
      have e1 : intE.e = 1 := rfl
      rw [e1] at ix
      have hw64 : w.length ≤ 4096 := by rw [← hw, List.length_take]; omega
      simp (disch := omega) only [L62_5, i, sh, sh2, shi, dec, ix, ld]
      refine (rcancel_ok BS (fun b hb => (nS b hb).2) (Nat.le_trans (goneS_len _ _) hs) t).mono ?_
      rintro _ h4 ⟨rfl, S4, B4, f4, n4⟩
      rw [← goneS_snoc ht] at B4
      have f4' : Fr S h h4 := fS.trans' f4 fun a ha hS' => (nS a hS').1.resolve_right (by omega)
      have le5 := f4.le
      refine ⟨n, by omega, j + 1, by simp, by omega, f4', S4, B4, fun a ha => ?_⟩
      obtain ⟨h5, h6⟩ := n4 a ha
      refine ⟨?_, h6⟩
      rcases h5 with h5 | h5
      · exact (nS a h5).1
      · exact .inr (by omega)
  | succ n =>
    obtain ⟨t, ht, _⟩ := drop_at (l := slS s c) (k := j) (by omega)
    have ix := RUh.ix (k := .i64) (i := j) (by omega)
    have ld := RUh.ld1 ht rfl rfl
    have e1 : intE.e = 1 := rfl
    rw [e1] at ix
    have tk := take_snoc ht
    by_cases hk : (j : Int) < k0
    · obtain ⟨V', h', e, S4, c4, _⟩ := Sp.push (E := intE) (V := W) (l := ((slS s c).take j).take k0.toNat) 0 rfl (bytes := 8) t (cs := [i t]) rfl (by omega)
      have e : appendL 1 8 W _ _ = _ := e
      have bs := bs24_1 h t
      have ap := ap24 (V := W) (U := .slice h.next 0 1 (.ex 1)) rfl (h.alloc (.cells [i t] .ex))
      rw [e] at ap
      simp only [i] at bs ap
      simp (disch := omega) only [L62_7, i, sh, sh2, shi, dec, ix, ld, b_len, hlW, lW, bs, ap]
      refine ⟨n, by omega, j + 1, V', by simp, by omega, ?_⟩
      have e2 : ((slS s c).take (j + 1)).take k0.toNat = ((slS s c).take j).take k0.toNat ++ [t] := by
        rw [tk, List.take_of_length_le (i := k0.toNat) (by simp; omega), List.take_of_length_le (i := k0.toNat) (by simp; omega)]
      rw [e2]; exact S4
    · simp (disch := omega) only [L62_7, i, sh, sh2, shi, dec, ix, ld, b_len, hlW, lW]
      refine ⟨n, by omega, j + 1, W, by simp, by omega, ?_⟩
      have e2 : ((slS s c).take (j + 1)).take k0.toNat = ((slS s c).take j).take k0.toNat := by
        rw [List.take_take, List.take_take, Nat.min_eq_left (by omega), Nat.min_eq_left (by omega)]
      rw [e2]; exact Sp
theorem seats_snoc {l : List Chan} {k : Nat} {c : Chan} (h : l[k]? = some c) (t : Int) : seatsOf t l (k + 1) = seatsOf t l k ++ [(t, c, (k : Int))] := by rw [seatsOf, h]
theorem seats_len (t : Int) (l : List Chan) : ∀ k, (seatsOf t l k).length ≤ k
  | 0 => Nat.le_refl _
  | k + 1 => by
    have := seats_len t l k
    rw [seatsOf, List.length_append]
    split <;> simp <;> omega
def rsleepN (s : List Seat) (n : Nat) (t : Int) (l : List Chan) : Int :=
  if t < 1 ∨ l = [] ∨ 16 < l.length ∨ ¬ l.Nodup then 1 else if onS s t ≠ [] then 101 else if 64 ≤ n then 2 else 0
theorem cut30_hi {h : LHeap} {W : LV} {l : List Chan} (R : Row h W chanE l) (C : Capd W 3) {j : Nat} (hj : j ≤ l.length) : ∃ U, cutT Try.prog 30 W none (some (.int .i64 (j : Int))) none (limL W h) = some U ∧ Row h U chanE (l.take j) ∧ ∀ b, U.obj = some b → W.obj = some b := by
  obtain ⟨U, e, R', _, ob, _⟩ := R.cut C (i := 0) (j := j) (by omega) hj none (some j) rfl rfl
  exact ⟨U, ((cut_t ty30 sz23 (by decide) W (limL W h)).1 _ _).trans e, by simpa using R', ob⟩
theorem build78 (t : Int) (c : Chan) (k : Int) : buildL Try.prog 78 [(0, i t), (1, .agg (chanE.f c)), (2, i k)] = some (.agg (seatE.f (t, c, k))) := nr (by kernel_rfl)
set_option maxHeartbeats 2000000 in
/-- Sleep. -/
theorem rsleep_ok (B : (RqBox r S s).ok g) (lt : ∀ b, S b → b < g.next) (hs : s.length ≤ 2048) (t : Int) {L : LV} {l : List Chan} (RL : Row g L chanE l) (CL : Capd L 3) (hl0 : l.length < 9223372036854775808) (hL : ∀ b, L.obj = some b → ¬ S b) :
    Ok Try.prog 61 [.ptr r 0, i t, L] g fun v h => ∃ al, RiseS s al ∧ v = i (rsleepN s al.length t l) ∧ After (RqD r) S g h (if rsleepN s al.length t l = 0 then s ++ seatsOf t l l.length else s) := by
  refine ok61 fun wf _ => ?_
  obtain ⟨_, ⟨V, rfl⟩, Sp0⟩ := box_open B lt
  have x := Sp0.cell (a := r) (vs := [V]) 0 rfl
  have R := Sp0.row (E := seatE) (V := V) (l := s) 1 rfl
  have hlL := fun g' => RL.len (P := Try.prog) ty30 (g' := g')
  have hr := wf.lt _ _ x
  -- a list of all there are
  have hal : ∃ al, RiseS s al := by
    have : ∀ s : List Seat, ∃ al, RiseS s al := by
      intro s
      induction s with
      | nil => exact ⟨[], List.Pairwise.nil, by simp, by simp⟩
      | cons p s ih =>
        obtain ⟨al, a1, a2, a3⟩ := ih
        by_cases hp : p.1 ∈ al
        · exact ⟨al, a1, fun x => by
            rw [a2]
            constructor
            · rintro ⟨q, hq, e⟩; exact ⟨q, List.mem_cons_of_mem _ hq, e⟩
            · rintro ⟨q, hq, e⟩
              rcases List.mem_cons.1 hq with rfl | hq
              · exact (a2 x).1 (e ▸ hp)
              · exact ⟨q, hq, e⟩, by rw [List.length_cons]; omega⟩
        · have key : ∀ m : List Int, m.Pairwise (· < ·) → p.1 ∉ m → ∃ m' : List Int, m'.Pairwise (· < ·) ∧ (∀ x, x ∈ m' ↔ x ∈ m ∨ p.1 = x) ∧ m'.length = m.length + 1 := by
            intro m hm hpm
            induction m with
            | nil => exact ⟨[p.1], by simp, by simp [eq_comm], rfl⟩
            | cons y m ih2 =>
              rw [List.pairwise_cons] at hm
              by_cases hy : p.1 < y
              · refine ⟨p.1 :: y :: m, ?_, fun x => by simp [eq_comm, or_comm], rfl⟩
                rw [List.pairwise_cons, List.pairwise_cons]
                exact ⟨fun z hz => by
                  rcases List.mem_cons.1 hz with rfl | hz
                  · exact hy
                  · have := hm.1 z hz; omega, hm⟩
              · obtain ⟨m', q1, q2, q3⟩ := ih2 hm.2 fun h => hpm (List.mem_cons_of_mem _ h)
                have hne : p.1 ≠ y := fun e => hpm (by rw [e]; exact List.mem_cons_self ..)
                refine ⟨y :: m', ?_, fun x => ?_, by simp [q3]⟩
                · rw [List.pairwise_cons]
                  refine ⟨fun z hz => ?_, q1⟩
                  rcases (q2 z).1 hz with hz | rfl
                  · exact hm.1 z hz
                  · omega
                · rw [List.mem_cons, List.mem_cons, q2, or_assoc]
          obtain ⟨m', q1, q2, q3⟩ := key al a1 hp
          exact ⟨m', q1, fun x => by
            rw [q2, a2]
            constructor
            · rintro (⟨q, hq, e⟩ | e)
              · exact ⟨q, List.mem_cons_of_mem _ hq, e⟩
              · exact ⟨p, List.mem_cons_self .., e⟩
            · rintro ⟨q, hq, e⟩
              rcases List.mem_cons.1 hq with rfl | hq
              · exact .inr e
              · exact .inl ⟨q, hq, e⟩, by rw [List.length_cons]; omega⟩
    exact this s
  have bad : ∀ h k, Fr noF g h → (∀ n, rsleepN s n t l = k) → k ≠ 0 → ∃ al, RiseS s al ∧ i k = i (rsleepN s al.length t l) ∧ After (RqD r) S g h (if rsleepN s al.length t l = 0 then s ++ seatsOf t l l.length else s) := by
    intro h k f e hk
    obtain ⟨al, ra⟩ := hal
    refine ⟨al, ra, by rw [e], ?_⟩
    rw [if_neg (by rw [e]; exact hk)]
    exact After.same ((RqBox r S s).up _ _ (fun a ha => f.eq a (lt a ha) id) B) f lt
  by_cases h1 : t < 1
  · simp (disch := omega) only [F61, J61_0, i, sh, sh2, shi, dec, b_len, hlL]
    exact bad _ 1 (Fr.refl _ _) (fun n => by unfold rsleepN; rw [if_pos (.inl h1)]) (by decide)
  by_cases h2 : l.length = 0
  · simp (disch := omega) only [F61, J61_0, i, sh, sh2, shi, dec, b_len, hlL]
    exact bad _ 1 (Fr.refl _ _) (fun n => by unfold rsleepN; rw [if_pos (.inr (.inl (List.length_eq_zero_iff.1 h2)))]) (by decide)
  by_cases h3 : 16 < l.length
  · simp (disch := omega) only [F61, J61_0, i, sh, sh2, shi, dec, b_len, hlL]
    exact bad _ 1 (Fr.refl _ _) (fun n => by unfold rsleepN; rw [if_pos (.inr (.inr (.inl h3)))]) (by decide)
  simp (disch := omega) only [F61, J61_0, J61_1, J61_9, i, sh, sh2, shi, dec, b_len, hlL]
  refine loop_n (fun n' (st : LV) h => ∃ (k : Nat), st = i (k : Int) ∧ k + n' = l.length ∧ Fr noF g h ∧ (l.take k).Nodup) (n := l.length) ⟨0, rfl, by omega, Fr.refl _ _, by simp⟩ ?_
  rintro n' st h ⟨k, rfl, hk, f, hnd⟩
  have RLh := RL.old wf f
  cases n' with
  | zero =>
    rw [List.take_of_length_le (by omega)] at hnd
    have c0 : ¬ (t < 1 ∨ l = [] ∨ 16 < l.length ∨ ¬ l.Nodup) := by
      rintro (h | h | h | h)
      · exact h1 h
      · exact h2 (by rw [h]; rfl)
      · exact h3 h
      · exact h hnd
    have hN : ∀ n, rsleepN s n t l = if onS s t ≠ [] then 101 else if 64 ≤ n then 2 else 0 := fun n => by unfold rsleepN; rw [if_neg c0]
    have Sp1 := Sp0.pure f
    simp (disch := omega) only [L61_10, J61_11, J61_2, i, sh, sh2, shi, dec]
    refine (ron_ok (Sp1.cell (a := r) (vs := [V]) 0 rfl) (Sp1.row (E := seatE) (V := V) (l := s) 1 rfl) (by omega) t).mono ?_
    intro W h4 SW
    have RW := SW.row (E := chanE) (V := W) (l := onS s t) 0 rfl
    have hlW := fun g' => RW.len (P := Try.prog) ty30 (g' := g')
    have lW := onU_len s t 16
    have lW : (onS s t).length ≤ 16 * s.length := lW
    have f4 := f.trans SW.fr
    have Sp4 := Sp0.pure f4
    by_cases ho : onS s t = []
    · have ho' : (onS s t).length = 0 := by rw [ho]; rfl
      simp (disch := omega) only [i, sh, sh2, shi, dec, b_len, hlW, J61_3]
      refine (rall_ok (Sp4.cell (a := r) (vs := [V]) 0 rfl) (Sp4.row (E := seatE) (V := V) (l := s) 1 rfl) (by omega)).mono ?_
      rintro U h5 ⟨al, ra, SU⟩
      have RU := SU.row (E := intE) (V := U) (l := al) 0 rfl
      have hlU := fun g' => RU.len (P := Try.prog) ty24 (g' := g')
      have lU := ra.le
      have f5 := f4.trans SU.fr
      have Sp5 := Sp0.pure f5
      by_cases h64 : 64 ≤ al.length
      · simp (disch := omega) only [i, sh, sh2, shi, dec, b_len, hlU]
        have e2 : rsleepN s al.length t l = 2 := by rw [hN, if_neg (by simp [ho]), if_pos h64]
        refine ⟨al, ra, by rw [e2], ?_⟩
        rw [e2, if_neg (by decide)]
        exact After.same ((RqBox r S s).up _ _ (fun a ha => f5.eq a (lt a ha) id) B) f5 lt
      · have e2 : rsleepN s al.length t l = 0 := by rw [hN, if_neg (by simp [ho]), if_neg h64]
        refine Exists.elim (p := fun _ => True) ⟨(), trivial⟩ fun _ _ => ?_
        have x5 := Sp5.cell (a := r) (vs := [V]) 0 rfl
        have R5 := Sp5.row (E := seatE) (V := V) (l := s) 1 rfl
        obtain ⟨N1, h6, ea, S6, cN, f6, lo6⟩ := Sp5.clone' R5 (fun b hb => Sp5.lt (T := Thing.vec seatE V s) 1 rfl (a := b) hb) (bytes := 40) (by omega)
        have ea : appendL 5 40 _ V _ = _ := ea
        have ap := ap73 (V := .slice h5.next 0 0 (.ex 0)) (U := V) R5.not_str (h5.alloc (.cells [] .ex))
        rw [ea] at ap
        obtain ⟨est, S7, x6⟩ := rq_put S6
        have b0 := bs73_0 h5
        have xa : (h5.alloc (.cells [] .ex)).get r = some (.cells [V] .ex) := (get_alloc_ne _ _ (Nat.ne_of_lt (Sp5.lt (T := Thing.cells r [V]) 0 rfl (a := r) rfl))).trans x5
        simp (disch := omega) only [i, sh, sh2, shi, dec, b_len, hlU, J61_4, b0, xa, ap, x6, est, J61_5, hlL, J61_7]
        refine loop_n (fun n' (st : LV) h => ∃ (k : Nat) (V : LV), st = i (k : Int) ∧ k + n' = l.length ∧ Sep S g h [Thing.cells r [V], Thing.vec seatE V (s ++ seatsOf t l k)]) (n := l.length) ⟨0, N1, rfl, by omega, by simpa [seatsOf] using S7⟩ ?_
        rintro n' st h8 ⟨k, V8, rfl, hk, S8⟩
        cases n' with
        | zero =>
          obtain rfl : k = l.length := by omega
          simp (disch := omega) only [L61_8, J61_6, i, sh, sh2, shi, dec]
          refine ⟨al, ra, by rw [e2], ?_⟩
          rw [e2, if_pos rfl]
          exact S8.after ⟨V8, rfl⟩
        | succ n' =>
          obtain ⟨c, hc, _⟩ := drop_at (l := l) (k := k) (by omega)
          have RL8 := RL.up wf S8.fr hL
          have ix := RL8.ix (k := .i64) (i := k) (by omega)
          have ld := RL8.ld hc
          have e3 : chanE.e = 3 := rfl
          rw [e3] at ix ld
          obtain ⟨N, w1, w2⟩ := new_st3 h8 c
          have S9 := S8.temp (.cells (chanE.f c) .ex)
          have xc : (h8.alloc (.cells (chanE.f c) .ex)).get h8.next = some (.cells (chanE.f c) .ex) := get_alloc_eq _ _
          have x9 := S9.cell (a := r) (vs := [V8]) 0 rfl
          have sl := seats_len t l k
          have bd := build78 t c (k : Int)
          have bp := bs73_p (h8.alloc (.cells (chanE.f c) .ex)) (t, c, (k : Int))
          obtain ⟨V', h', e, SA, cA, nA, fA, oA⟩ := S9.push (E := seatE) (V := V8) (l := s ++ seatsOf t l k) 1 rfl (bytes := 40) (t, c, (k : Int)) (cs := seatE.f (t, c, (k : Int))) rfl (by rw [List.length_append]; omega)
          have e : appendL 5 40 V8 _ _ = _ := e
          have apc := ap73 (V := V8) (U := .slice (h8.alloc (.cells (chanE.f c) .ex)).next 0 1 (.ex 1)) rfl ((h8.alloc (.cells (chanE.f c) .ex)).alloc (.cells (seatE.f (t, c, (k : Int))) .ex))
          rw [e] at apc
          have xb : ((h8.alloc (.cells (chanE.f c) .ex)).alloc (.cells (seatE.f (t, c, (k : Int))) .ex)).get r = some (.cells [V8] .ex) := (get_alloc_ne _ _ (Nat.ne_of_lt (S9.lt (T := Thing.cells r [V8]) 0 rfl (a := r) rfl))).trans x9
          have SA : Sep S g h' [Thing.cells r [V8], Thing.vec seatE V' (s ++ seatsOf t l k ++ [(t, c, (k : Int))])] := SA
          have xA := SA.cell (a := r) (vs := [V8]) 0 rfl
          have est' : storeV 1 (.ptr r 0) V' h' = some (h'.set r (.cells [V'] .ex)) := by rw [store_o _ _ _ cA, xA]; rfl
          have SB := SA.store 0 rfl [V']
          have SB : Sep S g (h'.set r (.cells [V'] .ex)) [Thing.cells r [V'], Thing.vec seatE V' (s ++ seatsOf t l k ++ [(t, c, (k : Int))])] := SB
          simp only [i] at bd
          simp (disch := omega) only [L61_8, i, sh, sh2, shi, dec, ix, ld, w1, w2, x9, xc, chan_cell, bd, bp, xb, apc, est']
          refine ⟨⟨trivial, ⟨⟨n', by omega, k + 1, V', by simp, by omega, ?_⟩, trivial⟩, trivial⟩, trivial⟩
          rw [seats_snoc hc, ← List.append_assoc]; exact SB
    · have ho' : 0 < (onS s t).length := List.length_pos_iff.2 ho
      simp (disch := omega) only [i, sh, sh2, shi, dec, b_len, hlW]
      exact bad _ 101 f4 (fun n => by rw [hN, if_pos ho]) (by decide)
  | succ n' =>
    obtain ⟨c, hc, _⟩ := drop_at (l := l) (k := k) (by omega)
    have ix := RLh.ix (k := .i64) (i := k) (by omega)
    have ld := RLh.ld hc
    have e3 : chanE.e = 3 := rfl
    rw [e3] at ix ld
    obtain ⟨N, w1, w2⟩ := new_st3 h c
    have f1 : Fr noF g (h.alloc (.cells (chanE.f c) .ex)) := f.trans (Fr.alloc _ _)
    have xc : (h.alloc (.cells (chanE.f c) .ex)).get h.next = some (.cells (chanE.f c) .ex) := get_alloc_eq _ _
    have hnx : h.next < (h.alloc (.cells (chanE.f c) .ex)).next := Nat.lt_succ_self _
    have RL1 := RL.old wf f1
    obtain ⟨U, eU, RU, obU⟩ := cut30_hi RL1 CL (j := k) (by omega)
    have hlU := fun g' => RU.len (P := Try.prog) ty30 (g' := g')
    have ltk : (l.take k).length = k := by rw [List.length_take]; omega
    rw [ltk] at hlU
    have ltL : ∀ b, U.obj = some b → l.take k ≠ [] → b < (h.alloc (.cells (chanE.f c) .ex)).next := fun b hb hne => by
      rcases RL with ⟨h, _⟩ | ⟨a', off, cap, vs, own, rfl, hg, _⟩
      · rw [h] at hne; simp at hne
      · have := obU b hb; cases this
        exact Nat.lt_of_lt_of_le (wf.lt _ _ hg) f1.le
    simp (disch := omega) only [L61_10, J61_11, J61_12, J61_14, J61_15, i, sh, sh2, shi, dec, ix, ld, w1, w2, eU, b_len, hlU]
    refine loop_n (fun n2 (st : LV) h' => ∃ (m : Nat), st = i (m : Int) ∧ m + n2 = k ∧ Fr noF (h.alloc (.cells (chanE.f c) .ex)) h' ∧ ∀ d ∈ l.take m, d ≠ c) (n := k) ⟨0, rfl, by omega, Fr.refl _ _, by simp⟩ ?_
    rintro n2 st h' ⟨m, rfl, hm, f2, no⟩
    cases n2 with
    | zero =>
      obtain rfl : m = k := by omega
      simp (disch := omega) only [L61_16, J61_13, i, sh, sh2, shi, dec]
      refine ⟨n', by omega, m + 1, by simp, by omega, f1.trans f2, ?_⟩
      rw [take_snoc hc, List.nodup_append]
      exact ⟨hnd, by simp, fun d hd y hy => by rw [List.mem_singleton] at hy; subst hy; exact no d hd⟩
    | succ n2 =>
      obtain ⟨d, hd, _⟩ := drop_at (l := l) (k := m) (by omega)
      have hdt : (l.take k)[m]? = some d := by rw [List.getElem?_take_of_lt (by omega)]; exact hd
      have RU2 : Row h' U chanE (l.take k) := RU.fr fun b hb => f2.eq b (ltL b hb (by intro e; have := congrArg List.length e; rw [ltk] at this; simp at this; omega)) id
      have ix2 := RU2.ix (k := .i64) (i := m) (by rw [ltk]; omega)
      have ld2 := RU2.ld hdt
      rw [e3] at ix2 ld2
      obtain ⟨N2, v1, v2⟩ := new_st3 h' d
      have xd : (h'.alloc (.cells (chanE.f d) .ex)).get h'.next = some (.cells (chanE.f d) .ex) := get_alloc_eq _ _
      have xc2 : (h'.alloc (.cells (chanE.f d) .ex)).get h.next = some (.cells (chanE.f c) .ex) := (get_alloc_ne _ _ (Nat.ne_of_lt (Nat.lt_of_lt_of_le hnx f2.le))).trans ((f2.eq _ hnx id).trans xc)
      have eqD := chan_eqD c d
      have f3 : Fr noF (h.alloc (.cells (chanE.f c) .ex)) (h'.alloc (.cells (chanE.f d) .ex)) := f2.trans (Fr.alloc _ _)
      by_cases hcd : c = d
      · rw [decide_eq_true hcd] at eqD
        simp (disch := omega) only [L61_16, i, sh, sh2, shi, dec, ix2, ld2, v1, v2, xd, xc2, chan_cell, eqD]
        refine bad _ 1 (f1.trans f3) (fun n => ?_) (by decide)
        have nn : ¬ l.Nodup := by
          intro nd
          subst hcd
          have := nd_inj nd (List.getElem?_eq_some_iff.1 hc).1 (List.getElem?_eq_some_iff.1 hd).1 (by rw [(List.getElem?_eq_some_iff.1 hc).2, (List.getElem?_eq_some_iff.1 hd).2])
          omega
        unfold rsleepN
        rw [if_pos (.inr (.inr (.inr nn)))]
      · rw [decide_eq_false hcd] at eqD
        simp (disch := omega) only [L61_16, i, sh, sh2, shi, dec, ix2, ld2, v1, v2, xd, xc2, chan_cell, eqD]
        refine ⟨n2, by omega, m + 1, by simp, by omega, f3, fun z hz => ?_⟩
        rw [take_snoc hd] at hz
        rcases List.mem_append.1 hz with hz | hz
        · exact no z hz
        · rw [List.mem_singleton] at hz; subst hz; exact fun e => hcd e.symm
end
end Go.Proofs.Ytgncgokjbakdmaa
