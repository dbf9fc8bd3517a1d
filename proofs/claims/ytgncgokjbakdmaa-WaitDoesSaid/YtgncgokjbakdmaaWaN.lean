/-
  waitq: Fork.
-/
import Derived.Test.YtgncgokjbakdmaaWaE
set_option linter.all false
namespace Go.Proofs.Ytgncgokjbakdmaa
open Go.ChangeShapes Go.WideShapes Go.ChangeAt Go.RowKit Go.Lm
set_option linter.unusedSimpArgs false
set_option linter.unusedVariables false
set_option maxRecDepth 10000
theorem new_st3' (h : LHeap) (p : Chan) : ∃ N, newL (.agg [.int .i64 0, .int .i64 0, .int .i64 0]) h = some (.ptr h.next 0, N) ∧ storeV 3 (.ptr h.next 0) (.agg (chanE.f p)) N = some (h.alloc (.cells (chanE.f p) .ex)) := by
  refine ⟨_, new_agg _ _ (by simp [LV.cell]), ?_⟩
  have e := store_agg' (E := chanE) h.next 0 p (h.alloc (.cells [.int .i64 0, .int .i64 0, .int .i64 0] .ex))
  have e7 : chanE.e = 3 := rfl
  rw [e7] at e
  rw [e]
  simp only [storeCellsL, get_alloc_eq]
  rw [if_pos ⟨by decide, by rw [chanE.len]; exact Nat.le_refl _, List.all_eq_true.2 fun v hv => chanE.cell p v hv⟩, alloc_set']
  rfl
structure ForkI (g h : LHeap) (q' ms' mo' : Nat) (col : Nat → Option Tag) : Prop where
  at_ : h.get q' = some (.cells [.map ms', .map mo'] .ex)
  cq : col q' = some .q
  cs : col ms' = some .ms
  co : col mo' = some .mo
  fr : Fr noF g h
  lt : ∀ a, col a ≠ none → g.next ≤ a ∧ a < h.next
def PartI {κ X : Type} (tag : κ → Tag) (E : Enc X) (rowOf : κ → List X) (left : κ → Prop) (mp : κ → Option LV) (col : Nat → Option Tag) (h : LHeap) : Prop :=
  ∀ c, (mp c = none ∧ (left c ∨ rowOf c = [])) ∨ ∃ V a, mp c = some V ∧ ¬ left c ∧ rowOf c ≠ [] ∧ V.obj = some a ∧ col a = some (tag c) ∧ Row h V E (rowOf c) ∧ Grow h V E.e ∧ Mine h V
section
variable {g h hd : LHeap} {q' ms' mo' a0 : Nat} {col : Nat → Option Tag} {Z : Nat → Prop} {t : Tag}
theorem ForkI.step (I : ForkI g h q' ms' mo' col) (f : Fr Z h hd) (hZ : ∀ a, Z a → g.next ≤ a ∧ col a ≠ some .q) (h1 : h.next ≤ a0) (h2 : a0 < hd.next) : ForkI g hd q' ms' mo' (upd col a0 (some t)) := by
  have lq := (I.lt q' (by rw [I.cq]; simp)).2
  have ls := (I.lt ms' (by rw [I.cs]; simp)).2
  have lo := (I.lt mo' (by rw [I.co]; simp)).2
  have lg := I.fr.le
  refine ⟨(f.eq q' lq fun hz => (hZ _ hz).2 I.cq).trans I.at_, by rw [upd_ne _ _ (by omega)]; exact I.cq, by rw [upd_ne _ _ (by omega)]; exact I.cs, by rw [upd_ne _ _ (by omega)]; exact I.co,
    I.fr.trans' f fun i hi hz => absurd (hZ i hz).1 (by omega), fun a ha => ?_⟩
  by_cases e : a = a0
  · subst e; exact ⟨by omega, h2⟩
  · rw [upd_ne _ _ e] at ha
    have := I.lt a ha
    exact ⟨this.1, Nat.lt_of_lt_of_le this.2 f.le⟩
variable {κ X : Type} {tag : κ → Tag} {E : Enc X} {rowOf : κ → List X} {left left' : κ → Prop} {mp : κ → Option LV}
theorem PartI.keep (P : PartI tag E rowOf left mp col h) (f : Fr Z h hd) (hZ : ∀ a c, Z a → col a ≠ some (tag c)) (lt : ∀ a, col a ≠ none → a < h.next) (h1 : h.next ≤ a0) : PartI tag E rowOf left mp (upd col a0 (some t)) hd := by
  intro c
  rcases P c with h | ⟨V, a, e1, e2, e3, e4, e5, e6, e7, e8⟩
  · exact .inl h
  · have la := lt a (by rw [e5]; simp)
    have hk : ∀ b, V.obj = some b → hd.get b = h.get b := fun b hb => by rw [e4] at hb; cases hb; exact f.eq a la fun hz => hZ a c hz e5
    exact .inr ⟨V, a, e1, e2, e3, e4, by rw [upd_ne _ _ (by omega)]; exact e5, e6.fr hk, e7.fr hk, e8.fr hk⟩
theorem PartI.step [DecidableEq κ] (P : PartI tag E rowOf left mp col h) (f : Fr Z h hd) (hZ : ∀ a c, Z a → col a ≠ some (tag c)) (lt : ∀ a, col a ≠ none → a < h.next) (h1 : h.next ≤ a0) {k : κ} {V : LV}
    (hl : ∀ k', left' k' ↔ left k' ∧ k' ≠ k) (hne : rowOf k ≠ []) (hV : V.obj = some a0) (R : Row hd V E (rowOf k)) (G : Grow hd V E.e) (M : Mine hd V) : PartI tag E rowOf left' (upd mp k (some V)) (upd col a0 (some (tag k))) hd := by
  intro c
  by_cases e : c = k
  · subst e
    exact .inr ⟨V, a0, by rw [upd_at], fun h => ((hl _).1 h).2 rfl, hne, hV, by rw [upd_at], R, G, M⟩
  · rw [upd_ne _ _ e]
    rcases P.keep (t := tag k) f hZ lt h1 c with ⟨h, h'⟩ | ⟨W, a, e1, e2, e3, e4, e5, e6, e7, e8⟩
    · exact .inl ⟨h, h'.imp (fun h => (hl c).2 ⟨h, e⟩) id⟩
    · exact .inr ⟨W, a, e1, fun h => e2 ((hl c).1 h).1, e3, e4, e5, e6, e7, e8⟩
end
section
variable {g : LHeap} {q n : Nat} {col : Nat → Option Tag} {on : Int → Option (List Chan)} {sl : Chan → List Int}
set_option maxHeartbeats 2000000 in
/-- Fork: another one that is the same. -/
theorem fork_ok (D : WQ g q col on sl n) : Ok Try.prog 37 [.ptr q 0] g fun v h => ∃ q' col', v = .ptr q' 0 ∧ WQ h q' col' on sl n ∧ Fr noF g h ∧ ∀ a, a < g.next → col' a = none := by
  refine ok37 fun wf lt => ?_
  simp (disch := omega) only [F37, J37_0]
  refine (made_ok D).mono ?_
  rintro _ g ⟨rfl, rfl⟩
  simp (disch := omega) only [i, sh, sh2, J37_1]
  refine new_ok.mono ?_
  rintro _ h1 ⟨q', col1, rfl, D1, f1, nw1⟩
  have DD := D
  obtain ⟨ms, mo, mpS, mpO, nS, D⟩ := D
  obtain ⟨ms', mo', mpS', mpO', nS', D1⟩ := D1
  have eS : mpS' = fun _ => none := funext fun c => (D1.sls c).elim (·.1) fun ⟨V, a, _, h, _⟩ => absurd rfl h
  have eO : mpO' = fun _ => none := funext fun c => (D1.ons c).elim (·.1) fun ⟨V, l, a, _, h, _⟩ => by cases h
  subst eS eO
  have few64 := D.few
  have Dh : ∀ {h}, Fr noF g h → WQd h q col on sl n ms mo mpS mpO nS := fun f => D.up f fun _ h => h.elim
  have lms : ms < g.next := D.lt ms (by rw [D.cs]; simp)
  have lmo : mo < g.next := D.lt mo (by rw [D.co]; simp)
  have I1 : ForkI g h1 q' ms' mo' col1 := ⟨D1.at_, D1.cq, D1.cs, D1.co, f1, fun a ha => ⟨Nat.le_of_not_lt fun hlt => ha (nw1 a hlt), D1.lt a ha⟩⟩
  have x1 := (Dh f1).at_
  obtain ⟨o1, left1, er, It1, nd1, ln1, mem1⟩ := (Dh f1).mapS.range (P := Try.prog) ty79 (Nat.lt_of_lt_of_le lms f1.le)
  simp (disch := omega) only [i, sh, sh2, J37_2, x1, er, J37_7]
  have none1 : ∀ a, h1.next ≤ a → col1 a = none := fun a ha => Classical.byContradiction fun hn => by have := D1.lt a hn; omega
  have fo : Fr noF h1 (h1.alloc o1) := Fr.alloc _ _
  have hnx : h1.next < (h1.alloc o1).next := Nat.lt_succ_self _
  refine loop_n (fun m (st : Unit) h => ∃ (left : List Chan) (colN : Nat → Option Tag) (mpN : Chan → Option LV) (nN : Nat), left.length = m ∧ left.Nodup ∧ MapIt h ms h1.next chanK.k mpS nS left ∧ ForkI g h q' ms' mo' colN ∧ colN h1.next = none ∧ h1.next < h.next ∧
      MapIs h ms' chanK.k mpN nN ∧ MapIs h mo' intK.k (fun _ => none) 0 ∧ PartI .s intE sl (· ∈ left) mpN colN h) (n := left1.length)
    ⟨left1, col1, fun _ => none, nS', rfl, nd1, It1, ⟨(fo.eq q' (D1.lt q' (by rw [D1.cq]; simp)) id).trans D1.at_, I1.cq, I1.cs, I1.co, f1.trans fo, fun a ha => ⟨(I1.lt a ha).1, by have := (I1.lt a ha).2; omega⟩⟩, none1 _ (Nat.le_refl _), hnx,
      D1.mapS.fr (fo.eq ms' (D1.lt ms' (by rw [D1.cs]; simp)) id), D1.mapO.fr (fo.eq mo' (D1.lt mo' (by rw [D1.co]; simp)) id), fun c => .inl ⟨rfl, by
        by_cases hc : sl c = []
        · exact .inr hc
        · refine .inl ((mem1 c).2 ?_)
          rcases D.sls c with ⟨_, h⟩ | ⟨V, a, h, _⟩
          · exact absurd h hc
          · rw [h]; rfl⟩⟩ ?_
  rintro m _ h ⟨left, colN, mpN, nN, hm, nd, It, I, cr, hr, MS, MO, PS⟩
  have f1h : h1.next ≤ h.next := by omega
  simp only [L37_8]
  refine It.next (fun hl => ?_) fun k v left' o hk hmp hlen hmem hnd It' he => ?_
  · -- the second map
    subst hl
    simp (disch := omega) only [i, sh, sh2]
    have x2 := (Dh I.fr).at_
    obtain ⟨o2, left2, er2, It2, nd2, ln2, mem2⟩ := (Dh I.fr).mapO.range (P := Try.prog) ty80 (Nat.lt_of_lt_of_le lmo I.fr.le)
    simp (disch := omega) only [J37_3, i, sh, sh2, x2, er2, J37_5]
    have fo2 : Fr noF h (h.alloc o2) := Fr.alloc _ _
    have hnx2 : h.next < (h.alloc o2).next := Nat.lt_succ_self _
    have none2 : colN h.next = none := Classical.byContradiction fun hn => by have := I.lt _ hn; omega
    generalize hR : h.next = r2 at *
    have hk2 : ∀ a, colN a ≠ none → (h.alloc o2).get a = h.get a := fun a ha => fo2.eq a (by rw [hR]; exact (I.lt a ha).2 |> fun h => by omega) id
    refine loop_n (fun m (st : Unit) h => ∃ (left : List Int) (colN : Nat → Option Tag) (mpO' : Int → Option LV) (nO : Nat), left.length = m ∧ left.Nodup ∧ MapIt h mo r2 intK.k mpO n left ∧ ForkI g h q' ms' mo' colN ∧ colN r2 = none ∧ r2 < h.next ∧ g.next ≤ r2 ∧
        MapIs h ms' chanK.k mpN nN ∧ MapIs h mo' intK.k mpO' nO ∧ nO + left.length = n ∧ PartI .s intE sl (fun _ => False) mpN colN h ∧ PartI .o chanE (fun t => (on t).getD []) (· ∈ left) mpO' colN h) (n := left2.length)
      ⟨left2, colN, fun _ => none, 0, rfl, nd2, It2, ⟨(hk2 q' (by rw [I.cq]; simp)).trans I.at_, I.cq, I.cs, I.co, I.fr.trans fo2, fun a ha => ⟨(I.lt a ha).1, by have := (I.lt a ha).2; omega⟩⟩, none2, hnx2, by have := I.fr.le; omega,
        MS.fr (hk2 ms' (by rw [I.cs]; simp)), MO.fr (hk2 mo' (by rw [I.co]; simp)), by omega, fun c => ?_, fun t => .inl ⟨rfl, by
          by_cases hc : (on t).getD [] = []
          · exact .inr hc
          · refine .inl ((mem2 t).2 ?_)
            rcases D.ons t with ⟨_, h⟩ | ⟨V, l, a, h, _⟩
            · rw [h] at hc; exact absurd rfl hc
            · rw [h]; rfl⟩⟩ ?_
    · rcases PS c with ⟨e1, e2⟩ | ⟨V, a, e1, e2, e3, e4, e5, e6, e7, e8⟩
      · exact .inl ⟨e1, .inr (e2.resolve_left (by simp))⟩
      · have hkk : ∀ b, V.obj = some b → (h.alloc o2).get b = h.get b := fun b hb => by rw [e4] at hb; cases hb; exact hk2 a (by rw [e5]; simp)
        exact .inr ⟨V, a, e1, id, e3, e4, e5, e6.fr hkk, e7.fr hkk, e8.fr hkk⟩
    rintro m _ h6 ⟨left, colM, mpM, nM, hm, nd, It, I, cr, hr, hgr, MS, MO, hcnt, PS, PO⟩
    simp only [L37_6]
    refine It.next (fun hl => ?_) fun k v left' o hk hmp hlen hmem hnd It' he => ?_
    · subst hl
      simp (disch := omega) only [i, sh, sh2, J37_4]
      have hcnt : nM = n := by simpa using hcnt
      subst hcnt
      refine ⟨q', colM, rfl, ⟨ms', mo', mpN, mpM, nN, ⟨I.at_, MS, MO, I.cq, I.cs, I.co, fun c => ?_, fun t => ?_, fun a ha => (I.lt a ha).2, D.nod, D.mem, D.most, D.short⟩⟩, I.fr, fun a ha => Classical.byContradiction fun hn => by have := I.lt a hn; omega⟩
      · rcases PS c with ⟨e1, e2⟩ | ⟨V, a, e1, e2, e3, e4, e5, e6, e7, e8⟩
        · exact .inl ⟨e1, e2.resolve_left id⟩
        · exact .inr ⟨V, a, e1, e3, e4, e5, e6, e7, e8⟩
      · rcases PO t with ⟨e1, e2⟩ | ⟨V, a, e1, e2, e3, e4, e5, e6, e7, e8⟩
        · refine .inl ⟨e1, ?_⟩
          have e2 : (on t).getD [] = [] := e2.resolve_left (by simp)
          rcases D.ons t with ⟨_, h⟩ | ⟨V, l, a, _, h, h', _⟩
          · exact h
          · rw [h] at e2; exact absurd e2 h'
        · have e3 : (on t).getD [] ≠ [] := e3
          have e6 : Row h6 V chanE ((on t).getD []) := e6
          rcases D.ons t with ⟨_, h⟩ | ⟨V', l, a', _, h, h', _⟩
          · rw [h] at e3; exact absurd rfl e3
          · rw [h, Option.getD_some] at e6
            exact .inr ⟨V, l, a, e1, h, h', e4, e5, e6, e8⟩
    · rcases D.ons k with ⟨hn, _⟩ | ⟨V, l, a, hV, hon, hne, hVo, hcol, RV, mV⟩
      · rw [hn] at hmp; cases hmp
      rw [hV] at hmp
      have hvV : V = v := Option.some.inj hmp
      subst hvV
      have fr1 : Fr (fun a => a = r2) h6 (h6.set r2 o) := Fr.set _ rfl
      have la : a < g.next := D.lt a (by rw [hcol]; simp)
      have fr1g : Fr noF g (h6.set r2 o) := I.fr.trans' fr1 fun i hi hz => by omega
      have RV1 : Row (h6.set r2 o) V chanE l := RV.fr fun b hb => by rw [hVo] at hb; cases hb; exact fr1g.eq a la id
      have ne2 : q' ≠ r2 ∧ ms' ≠ r2 ∧ mo' ≠ r2 := ⟨fun e => (by rw [← e, I.cq] at cr; cases cr), fun e => (by rw [← e, I.cs] at cr; cases cr), fun e => (by rw [← e, I.co] at cr; cases cr)⟩
      have x6 : (h6.set r2 o).get q' = some (.cells [.map ms', .map mo'] .ex) := (get_set_ne _ _ ne2.1).trans I.at_
      have l16 := D.short k l hon
      have ks : intK.k k = .int .i64 k := rfl
      rw [ks] at he
      simp (disch := omega) only [i, sh, sh2, ks, he, x6]
      have nx : (h6.set r2 o).next = h6.next := rfl
      generalize h6.set r2 o = h7 at *
      refine ⟨(clone42_ok RV1 (by omega)).mono ?_, trivial⟩
      rintro U h8 ⟨OU, mU, f8⟩
      have x8 : h8.get q' = some (.cells [.map ms', .map mo'] .ex) := (f8.eq q' (by rw [nx]; exact (I.lt q' (by rw [I.cq]; simp)).2) id).trans x6
      have f68 : Fr (fun a => a = r2) h6 h8 := fr1.trans (f8.mono fun _ _ => False.elim)
      have MO8 : MapIs h8 mo' intK.k mpM nM := MO.fr (f68.eq mo' (I.lt mo' (by rw [I.co]; simp)).2 ne2.2.2)
      have hMk : mpM k = none := by
        rcases PO k with ⟨h, _⟩ | ⟨_, _, _, h, _⟩
        · exact h
        · exact absurd hk h
      obtain ⟨H, eH, MH, fH⟩ := MO8.set (P := Try.prog) intK ty80 k U
      have eH : mapSetL Try.prog 80 (.map mo') (.int .i64 k) U h8 = some H := eH
      rw [hMk] at MH
      simp (disch := omega) only [i, sh, sh2, x8, eH]
      obtain ⟨a0, ha0⟩ := Row.obj OU.row hne
      have lo0 := OU.lo a0 ha0
      have fZ : Fr (fun a => a = r2 ∨ a = mo') h6 H := (f68.mono fun _ _ h => .inl h).trans (fH.mono fun _ _ h => .inr h)
      have hHn : h8.next ≤ H.next := fH.le
      have kU : ∀ b, U.obj = some b → H.get b = h8.get b := fun b hb => fH.eq b (OU.lo b hb).2 fun e => by
        have := (OU.lo b hb).1; have := (I.lt mo' (by rw [I.co]; simp)).2; omega
      have ltN : ∀ a, colM a ≠ none → a < h6.next := fun a ha => (I.lt a ha).2
      have hg6 := I.fr.le
      refine ⟨trivial, ⟨left'.length, by omega, left', upd colM a0 (some (.o k)), upd mpM k (some U), nM + 1, rfl, hnd nd, ?_, ?_, ?_, by have := fZ.le; omega, hgr, ?_, MH, by omega, ?_, ?_⟩, trivial⟩
      · refine It'.fr ?_ ?_
        · refine (fH.eq mo (by have := f8.le; omega) fun e => ?_).trans (f8.eq mo (by omega) id)
          have := (I.lt mo' (by rw [I.co]; simp)).1; omega
        · exact (fH.eq r2 (by have := f8.le; omega) (Ne.symm ne2.2.2)).trans (f8.eq r2 (by omega) id)
      · refine I.step fZ (fun a hz => ?_) (by omega) (by omega)
        rcases hz with rfl | rfl
        · exact ⟨hgr, by rw [cr]; simp⟩
        · exact ⟨(I.lt _ (by rw [I.co]; simp)).1, by rw [I.co]; simp⟩
      · rw [upd_ne _ _ (by omega)]; exact cr
      · refine MS.fr (fZ.eq ms' (ltN ms' (by rw [I.cs]; simp)) ?_)
        rintro (e | e)
        · exact ne2.2.1 e
        · have := I.cs; rw [e, I.co] at this; cases this
      · refine PS.keep fZ (fun a c hz => ?_) ltN (by omega)
        rcases hz with rfl | rfl
        · rw [cr]; simp
        · rw [I.co]; simp
      · refine PO.step fZ (fun a c hz => ?_) ltN (by omega) hmem (by rw [hon]; exact hne) ha0 ?_ (OU.grow.fr kU) (mU.fr kU)
        · rcases hz with rfl | rfl
          · rw [cr]; simp
          · rw [I.co]; simp
        · show Row H U chanE ((on k).getD [])
          rw [hon]; exact OU.row.fr kU
  · rcases D.sls k with ⟨hn, _⟩ | ⟨V, a, hV, hne, hVo, hcol, RV, gV, mV⟩
    · rw [hn] at hmp; cases hmp
    rw [hV] at hmp
    have hvV : V = v := Option.some.inj hmp
    subst hvV
    have fr1 : Fr (fun a => a = h1.next) h (h.set h1.next o) := Fr.set _ rfl
    have la : a < g.next := D.lt a (by rw [hcol]; simp)
    have hgr : g.next ≤ h1.next := f1.le
    have fr1g : Fr noF g (h.set h1.next o) := I.fr.trans' fr1 fun i hi hz => by omega
    have ne2 : q' ≠ h1.next ∧ ms' ≠ h1.next ∧ mo' ≠ h1.next := ⟨fun e => (by rw [← e, I.cq] at cr; cases cr), fun e => (by rw [← e, I.cs] at cr; cases cr), fun e => (by rw [← e, I.co] at cr; cases cr)⟩
    have x6 : (h.set h1.next o).get q' = some (.cells [.map ms', .map mo'] .ex) := (get_set_ne _ _ ne2.1).trans I.at_
    have l64 := few64 k
    have nx : (h.set h1.next o).next = h.next := rfl
    obtain ⟨N, w1, w2⟩ := new_st3' (h.set h1.next o) k
    have ks : chanK.k k = .agg (chanE.f k) := rfl
    rw [ks] at he
    simp (disch := omega) only [i, sh, sh2, ks, he, w1, w2]
    have xk : ((h.set h1.next o).alloc (.cells (chanE.f k) .ex)).get (h.set h1.next o).next = some (.cells (chanE.f k) .ex) := get_alloc_eq _ _
    have f7 : Fr (fun a => a = h1.next) h ((h.set h1.next o).alloc (.cells (chanE.f k) .ex)) := fr1.trans ((Fr.alloc _ _).mono fun _ _ => False.elim)
    have fg7 : Fr noF g ((h.set h1.next o).alloc (.cells (chanE.f k) .ex)) := fr1g.trans (Fr.alloc _ _)
    have x7 : ((h.set h1.next o).alloc (.cells (chanE.f k) .ex)).get q' = some (.cells [.map ms', .map mo'] .ex) := (f7.eq q' (I.lt q' (by rw [I.cq]; simp)).2 ne2.1).trans I.at_
    have It7 : MapIt ((h.set h1.next o).alloc (.cells (chanE.f k) .ex)) ms h1.next chanK.k mpS nS left' := It'.fr (get_alloc_ne _ _ (by rw [nx]; have := I.fr.le; omega)) (get_alloc_ne _ _ (by rw [nx]; omega))
    have n7 : ((h.set h1.next o).alloc (.cells (chanE.f k) .ex)).next = h.next + 1 := rfl
    rw [nx] at xk ⊢
    simp (disch := omega) only [i, sh, sh2, x7, xk, chan_cell]
    generalize (h.set h1.next o).alloc (.cells (chanE.f k) .ex) = h7 at *
    have RV1 : Row h7 V intE (sl k) := RV.fr fun b hb => by rw [hVo] at hb; cases hb; exact fg7.eq a la id
    refine ⟨(clone43_ok RV1 (by omega)).mono ?_, trivial⟩
    rintro U h8 ⟨OU, mU, f8⟩
    have x8 : h8.get q' = some (.cells [.map ms', .map mo'] .ex) := (f8.eq q' (by have := (I.lt q' (by rw [I.cq]; simp)).2; omega) id).trans x7
    have xk8 : h8.get h.next = some (.cells (chanE.f k) .ex) := (f8.eq _ (by omega) id).trans xk
    have f68 : Fr (fun a => a = h1.next) h h8 := f7.trans (f8.mono fun _ _ => False.elim)
    have MS8 : MapIs h8 ms' chanK.k mpN nN := MS.fr (f68.eq ms' (I.lt ms' (by rw [I.cs]; simp)).2 ne2.2.1)
    obtain ⟨H, eH, MH, fH⟩ := MS8.set (P := Try.prog) chanK ty79 k U
    have eH : mapSetL Try.prog 79 (.map ms') (.agg (chanE.f k)) U h8 = some H := eH
    simp (disch := omega) only [i, sh, sh2, x8, xk8, chan_cell, eH]
    obtain ⟨a0, ha0⟩ := Row.obj OU.row hne
    have lo0 := OU.lo a0 ha0
    have fZ : Fr (fun a => a = h1.next ∨ a = ms') h H := (f68.mono fun _ _ h => .inl h).trans (fH.mono fun _ _ h => .inr h)
    have hHn : h8.next ≤ H.next := fH.le
    have kU : ∀ b, U.obj = some b → H.get b = h8.get b := fun b hb => fH.eq b (OU.lo b hb).2 fun e => by
      have := (OU.lo b hb).1; have := (I.lt ms' (by rw [I.cs]; simp)).2; omega
    have ltN : ∀ a, colN a ≠ none → a < h.next := fun a ha => (I.lt a ha).2
    have hg6 := I.fr.le
    have h88 := f8.le
    refine ⟨trivial, trivial, ⟨left'.length, by omega, left', upd colN a0 (some (.s k)), upd mpN k (some U), _, rfl, hnd nd, ?_, ?_, ?_, by have := fZ.le; omega, MH, ?_, ?_⟩, trivial⟩
    · refine It7.fr ?_ ?_
      · refine (fH.eq ms (by omega) fun e => ?_).trans (f8.eq ms (by omega) id)
        have := (I.lt ms' (by rw [I.cs]; simp)).1; omega
      · exact (fH.eq h1.next (by omega) (Ne.symm ne2.2.1)).trans (f8.eq h1.next (by omega) id)
    · refine I.step fZ (fun a hz => ?_) (by omega) (by omega)
      rcases hz with rfl | rfl
      · exact ⟨hgr, by rw [cr]; simp⟩
      · exact ⟨(I.lt _ (by rw [I.cs]; simp)).1, by rw [I.cs]; simp⟩
    · rw [upd_ne _ _ (by omega)]; exact cr
    · refine MO.fr (fZ.eq mo' (ltN mo' (by rw [I.co]; simp)) ?_)
      rintro (e | e)
      · exact ne2.2.2 e
      · have := I.co; rw [e, I.cs] at this; cases this
    · refine PS.step fZ (fun a c hz => ?_) ltN (by omega) hmem hne ha0 (OU.row.fr kU) (OU.grow.fr kU) (mU.fr kU)
      rcases hz with rfl | rfl
      · rw [cr]; simp
      · rw [I.cs]; simp
end
end Go.Proofs.Ytgncgokjbakdmaa
