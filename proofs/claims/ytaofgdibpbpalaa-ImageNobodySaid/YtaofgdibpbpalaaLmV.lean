/-
  The logical machine, part V: a call that never looks at the objects that it is handed may be computed whatever their numbers.
-/
import Derived.Test.YtaofgdibpbpalaaLmU
namespace Go.Lm

variable {P : Program} {W : World} {keep : Nat → Prop} {ρ : Ren} {g : LHeap} {w : World}

mutual
/-- Other numbers for the objects. -/
def LV.ren (s : Nat → Nat) : LV → LV
  | .ptr a off => .ptr (s a) off
  | .slice a off len c => .slice (s a) off len c
  | .tail a off alt e z => .tail (s a) off alt e z
  | .map a => .map (s a)
  | .func fn first caps => .func fn (rens s first) (rens s caps)
  | .iface t v => .iface t (v.ren s)
  | .agg cs => .agg (rens s cs)
  | .tuple vs => .tuple (rens s vs)
  | v => v
def rens (s : Nat → Nat) : List LV → List LV
  | [] => []
  | v :: vs => v.ren s :: rens s vs
end
mutual
/-- The objects' numbers are below k. -/
def LV.under (k : Nat) : LV → Bool
  | .ptr a _ | .slice a _ _ _ | .tail a _ _ _ _ | .map a => Nat.blt a k
  | .func _ first caps => unders k first && unders k caps
  | .iface _ v => v.under k
  | .agg cs => unders k cs
  | .tuple vs => unders k vs
  | _ => true
def unders (k : Nat) : List LV → Bool
  | [] => true
  | v :: vs => v.under k && unders k vs
end
def Ren.comp (ρ : Ren) (s : Nat → Nat) : Ren := ⟨fun i => ρ.blk (s i), fun i => ρ.base (s i), fun i => ρ.cap (s i), fun i => ρ.spot (s i)⟩
mutual
theorem LV.toV_ren (ρ : Ren) (s : Nat → Nat) : (v : LV) → v.toV (ρ.comp s) = (v.ren s).toV ρ
  | .ptr _ _ => rfl
  | .slice _ _ _ (.ex _) => rfl
  | .slice _ _ _ (.op _) => rfl
  | .tail _ _ _ _ _ => rfl
  | .map _ => rfl
  | .func _ first caps => by simp only [LV.toV, LV.ren, toVs_ren ρ s first, toVs_ren ρ s caps]
  | .iface _ v => by simp only [LV.toV, LV.ren, v.toV_ren ρ s]
  | .agg cs => by simp only [LV.toV, LV.ren, toVs_ren ρ s cs]
  | .tuple cs => by simp only [LV.toV, LV.ren, toVs_ren ρ s cs]
  | .bool _ | .int _ _ | .str _ | .nilp | .nils | .nilm | .nilf | .nili => by simp only [LV.toV, LV.ren]
theorem toVs_ren (ρ : Ren) (s : Nat → Nat) : (v : List LV) → toVs (ρ.comp s) v = toVs ρ (rens s v)
  | [] => rfl
  | v :: vs => by simp only [toVs, rens, v.toV_ren ρ s, toVs_ren ρ s vs]
end
mutual
theorem LV.ok_ren {n k : Nat} (s : Nat → Nat) : (v : LV) → v.under k = true → (v.ren s).ok ρ n → v.ok (ρ.comp s) k
  | .ptr a _, h, _ => by simp only [LV.under] at h; simp only [LV.ok]; exact Nat.le_of_ble_eq_true h
  | .slice a _ _ (.ex _), h, hl => by simp only [LV.under] at h; exact ⟨Nat.le_of_ble_eq_true h, hl.2⟩
  | .slice a _ _ (.op _), h, hl => by simp only [LV.under] at h; exact ⟨Nat.le_of_ble_eq_true h, hl.2⟩
  | .tail a _ _ _ _, h, hl => by simp only [LV.under] at h; exact ⟨Nat.le_of_ble_eq_true h, hl.2⟩
  | .map a, h, _ => by simp only [LV.under] at h; simp only [LV.ok]; exact Nat.le_of_ble_eq_true h
  | .func _ first caps, h, hl => by
    simp only [LV.under, Bool.and_eq_true] at h
    exact ⟨oks_ren s first h.1 hl.1, oks_ren s caps h.2 hl.2⟩
  | .iface _ v, h, hl => by simp only [LV.under] at h; simp only [LV.ok, LV.ren] at hl ⊢; exact v.ok_ren s h hl
  | .agg cs, h, hl => by simp only [LV.under] at h; simp only [LV.ok, LV.ren] at hl ⊢; exact oks_ren s cs h hl
  | .tuple cs, h, hl => by simp only [LV.under] at h; simp only [LV.ok, LV.ren] at hl ⊢; exact oks_ren s cs h hl
  | .bool _, _, _ | .int _ _, _, _ | .str _, _, _ | .nilp, _, _ | .nils, _, _ | .nilm, _, _ | .nilf, _, _ | .nili, _, _ => by simp only [LV.ok]
theorem oks_ren {n k : Nat} (s : Nat → Nat) : (v : List LV) → unders k v = true → oks ρ n (rens s v) → oks (ρ.comp s) k v
  | [], _, _ => by simp [oks]
  | v :: vs, h, hl => by
    simp only [unders, Bool.and_eq_true] at h
    exact ⟨v.ok_ren s h.1 hl.1, oks_ren s vs h.2 hl.2⟩
end

/-- What it is handed it hands on at most; it gives back nothing that names an object. -/
theorem Ok.blind {f : FuncId} {args : List LV} {k : Nat} {K : LV → LHeap → Prop} (s : Nat → Nat) (h : Ok P f args (emp k) K) (hk : unders k args = true) (hv : ∀ v g0, K v g0 → v.flat = true) :
    Ok P f (rens s args) g fun v g' => g' = g ∧ ∃ g0, K v g0 := by
  refine ⟨h.1, fun W keep ρ w hrel ha => ?_⟩
  have := h.2 w _ (ρ.comp s) w (rel_emp w _ k) (oks_ren s args hk ha)
  rw [toVs_ren] at this
  refine this.mono ?_
  rintro e w' ⟨v, g0, ρ', h1, h2, h3⟩
  have hf := hv _ _ h3
  refine ⟨v, g, ρ, by rw [h1, LV.flat_toV (ρ := ρ) v hf], ⟨Ren.Ext.refl _ _, ?_, LV.flat_ok v hf, Nat.le_refl _⟩, rfl, g0, h3⟩
  refine ⟨h2.rel.os.trans hrel.os, h2.rel.tape.trans hrel.tape, h2.rel.output.trans hrel.output, Nat.le_trans hrel.size h2.rel.size, fun b hb => ?_, fun i o hi => ?_, hrel.inj, hrel.mine⟩
  · obtain ⟨k1, k2⟩ := hrel.kept b hb
    exact ⟨k1, (h2.rel.kept b (Nat.lt_of_lt_of_le k1 hrel.size)).2.trans k2⟩
  · obtain ⟨k1, k2⟩ := hrel.obj i o hi
    exact ⟨k1, k2.heap (h2.rel.kept _ k2.lt).2⟩

/-- The answer is true. -/
def isTrue : LV → LHeap → Bool := fun v _ => match v with
  | .bool b => b
  | _ => false
theorem isTrue_eq {v : LV} {g : LHeap} (h : isTrue v g = true) : v = .bool true := by
  cases v with
  | bool b => cases b with
    | true => rfl
    | false => cases h
  | _ => cases h
/-- Computed, whatever objects are handed in and never looked at. -/
theorem blind_true (hm : P.follows .mixedOrders = true) {l : List FuncId} (hl : l.all (fineF P) = true) {n k : Nat} {f : FuncId} {args : List LV} (s : Nat → Nat) (hk : unders k args = true) (h : callB P l n f args (emp k) isTrue = true) :
    Ok P f (rens s args) g fun v _ => v = .bool true :=
  (Ok.blind (g := g) s (callB_sound hm hl n f args (emp k) isTrue h) hk fun v g0 h => by rw [isTrue_eq h]; rfl).mono fun _ _ ⟨_, _, h⟩ => isTrue_eq h

/-! ### What is handed in, argument by argument -/
section
variable {t : TypeId} {ts : List TypeId} {n : Nat} {xs : List LV}
theorem shp_nil (h : ShpArgs P g n [] xs) : xs = [] := by
  cases xs with
  | nil => rfl
  | cons x xs => exact h.elim
theorem shp_one {R : List LV → Prop} (ha : aggTy P t = false) (hR : ∀ ys, Shp P g n t ys → R ys) (h : ShpArgs P g n (t :: ts) xs) : ∃ x ys, xs = x :: ys ∧ R [x] ∧ ShpArgs P g n ts ys := by
  cases xs with
  | nil => exact h.elim
  | cons x xs =>
    obtain ⟨⟨h1, h2⟩, h3⟩ := h
    rw [if_neg (by simp [ha])] at h2
    have : x.cells = [x] := by cases x <;> first | rfl | cases h2
    rw [this] at h1
    exact ⟨x, xs, rfl, hR _ h1, h3⟩
theorem shp_int {k : IntKind} (ht : P.underlying t = some (.int k)) (h : ShpArgs P g (n + 1) (t :: ts) xs) : ∃ i ys, xs = .int k i :: ys ∧ k.min ≤ i ∧ i ≤ k.max ∧ ShpArgs P g (n + 1) ts ys := by
  obtain ⟨x, ys, rfl, ⟨i, e, h1, h2⟩, h3⟩ := shp_one (R := fun ys => ∃ i, ys = [.int k i] ∧ k.min ≤ i ∧ i ≤ k.max) (by simp [aggTy, ht]) (fun ys hs => by unfold Shp at hs; rw [ht] at hs; exact hs) h
  cases e
  exact ⟨i, ys, rfl, h1, h2, h3⟩
theorem shp_bool (ht : P.underlying t = some .bool) (h : ShpArgs P g (n + 1) (t :: ts) xs) : ∃ b ys, xs = .bool b :: ys ∧ ShpArgs P g (n + 1) ts ys := by
  obtain ⟨x, ys, rfl, ⟨i, e⟩, h3⟩ := shp_one (R := fun ys => ∃ i, ys = [.bool i]) (by simp [aggTy, ht]) (fun ys hs => by unfold Shp at hs; rw [ht] at hs; exact hs) h
  cases e
  exact ⟨i, ys, rfl, h3⟩
theorem shp_str (ht : P.underlying t = some .string) (h : ShpArgs P g (n + 1) (t :: ts) xs) : ∃ s ys, xs = .str s :: ys ∧ s.length ≤ maxLen ∧ ShpArgs P g (n + 1) ts ys := by
  obtain ⟨x, ys, rfl, ⟨i, e, h1⟩, h3⟩ := shp_one (R := fun ys => ∃ s, ys = [.str s] ∧ s.length ≤ maxLen) (by simp [aggTy, ht]) (fun ys hs => by unfold Shp at hs; rw [ht] at hs; exact hs) h
  cases e
  exact ⟨i, ys, rfl, h1, h3⟩
theorem shp_slice {e : TypeId} (ht : P.underlying t = some (.slice e)) (h : ShpArgs P g (n + 1) (t :: ts) xs) :
    ∃ x ys, xs = x :: ys ∧ (x = .nils ∨ (∃ a, x = .tail a 0 0 1 true) ∨ ∃ a len cap xss, x = .slice a 0 len (.ex cap) ∧ len ≤ cap ∧ cap ≤ maxLen ∧ g.get a = some (.cells xss.flatten .ro) ∧ (∀ ys ∈ xss, ys.length = P.cellsOf e) ∧
      Alls (Shp P g n) (List.replicate len e) xss) ∧ ShpArgs P g (n + 1) ts ys := by
  obtain ⟨x, ys, rfl, h1, h3⟩ := shp_one (R := fun xs => xs = [.nils] ∨ (∃ a, xs = [.tail a 0 0 1 true]) ∨ ∃ a len cap xss, xs = [.slice a 0 len (.ex cap)] ∧ len ≤ cap ∧ cap ≤ maxLen ∧ g.get a = some (.cells xss.flatten .ro) ∧ (∀ ys ∈ xss, ys.length = P.cellsOf e) ∧
      Alls (Shp P g n) (List.replicate len e) xss) (by simp [aggTy, ht]) (fun ys hs => by unfold Shp at hs; rw [ht] at hs; exact hs) h
  refine ⟨x, ys, rfl, ?_, h3⟩
  rcases h1 with e | ⟨a, e⟩ | ⟨a, len, cap, xss, e, h2⟩
  · cases e; exact .inl rfl
  · cases e; exact .inr (.inl ⟨a, rfl⟩)
  · cases e; exact .inr (.inr ⟨a, len, cap, xss, rfl, h2⟩)
theorem shp_struct {fs : Array Field} (ht : P.underlying t = some (.struct fs)) (h : ShpArgs P g (n + 1) (t :: ts) xs) : ∃ xss ys, xs = .agg xss.flatten :: ys ∧ Alls (Shp P g n) (fs.toList.map (·.type)) xss ∧ ShpArgs P g (n + 1) ts ys := by
  cases xs with
  | nil => exact h.elim
  | cons x xs =>
    obtain ⟨⟨h1, h2⟩, h3⟩ := h
    rw [if_pos (by simp [aggTy, ht])] at h2
    obtain ⟨cs, rfl⟩ := h2
    unfold Shp at h1
    rw [ht] at h1
    obtain ⟨xss, h1, h4⟩ := h1
    simp only [LV.cells] at h1
    subst h1
    exact ⟨xss, xs, rfl, h4, h3⟩
theorem alls_int {k : IntKind} {yss : List (List LV)} (ht : P.underlying t = some (.int k)) (h : Alls (Shp P g (n + 1)) (t :: ts) yss) : ∃ i zss, yss = [.int k i] :: zss ∧ k.min ≤ i ∧ i ≤ k.max ∧ Alls (Shp P g (n + 1)) ts zss := by
  cases yss with
  | nil => exact h.elim
  | cons y yss =>
    obtain ⟨h1, h2⟩ := h
    unfold Shp at h1
    rw [ht] at h1
    obtain ⟨i, rfl, h3, h4⟩ := h1
    exact ⟨i, yss, rfl, h3, h4, h2⟩
theorem alls_bool {yss : List (List LV)} (ht : P.underlying t = some .bool) (h : Alls (Shp P g (n + 1)) (t :: ts) yss) : ∃ i zss, yss = [.bool i] :: zss ∧ Alls (Shp P g (n + 1)) ts zss := by
  cases yss with
  | nil => exact h.elim
  | cons y yss =>
    obtain ⟨h1, h2⟩ := h
    unfold Shp at h1
    rw [ht] at h1
    obtain ⟨i, rfl⟩ := h1
    exact ⟨i, yss, rfl, h2⟩
theorem alls_str {yss : List (List LV)} (ht : P.underlying t = some .string) (h : Alls (Shp P g (n + 1)) (t :: ts) yss) : ∃ s zss, yss = [.str s] :: zss ∧ s.length ≤ maxLen ∧ Alls (Shp P g (n + 1)) ts zss := by
  cases yss with
  | nil => exact h.elim
  | cons y yss =>
    obtain ⟨h1, h2⟩ := h
    unfold Shp at h1
    rw [ht] at h1
    obtain ⟨i, rfl, h3⟩ := h1
    exact ⟨i, yss, rfl, h3, h2⟩
theorem alls_struct {fs : Array Field} {yss : List (List LV)} (ht : P.underlying t = some (.struct fs)) (h : Alls (Shp P g (n + 1)) (t :: ts) yss) : ∃ xss zss, yss = xss.flatten :: zss ∧ Alls (Shp P g n) (fs.toList.map (·.type)) xss ∧ Alls (Shp P g (n + 1)) ts zss := by
  cases yss with
  | nil => exact h.elim
  | cons y yss =>
    obtain ⟨h1, h2⟩ := h
    unfold Shp at h1
    rw [ht] at h1
    obtain ⟨xss, rfl, h3⟩ := h1
    exact ⟨xss, yss, rfl, h3, h2⟩
theorem alls_slice {e : TypeId} {yss : List (List LV)} (ht : P.underlying t = some (.slice e)) (h : Alls (Shp P g (n + 1)) (t :: ts) yss) :
    ∃ x zss, yss = [x] :: zss ∧ (x = .nils ∨ (∃ a, x = .tail a 0 0 1 true) ∨ ∃ a len cap xss, x = .slice a 0 len (.ex cap) ∧ len ≤ cap ∧ cap ≤ maxLen ∧ g.get a = some (.cells xss.flatten .ro) ∧ (∀ ys ∈ xss, ys.length = P.cellsOf e) ∧
      Alls (Shp P g n) (List.replicate len e) xss) ∧ Alls (Shp P g (n + 1)) ts zss := by
  cases yss with
  | nil => exact h.elim
  | cons y yss =>
    obtain ⟨h1, h2⟩ := h
    unfold Shp at h1
    rw [ht] at h1
    rcases h1 with e | ⟨a, e⟩ | ⟨a, len, cap, xss, e, h3⟩
    · exact ⟨_, yss, by rw [e], .inl rfl, h2⟩
    · exact ⟨_, yss, by rw [e], .inr (.inl ⟨a, rfl⟩), h2⟩
    · exact ⟨_, yss, by rw [e], .inr (.inr ⟨a, len, cap, xss, rfl, h3⟩), h2⟩
theorem alls_nil {yss : List (List LV)} {R : TypeId → List LV → Prop} (h : Alls R [] yss) : yss = [] := by
  cases yss with
  | nil => rfl
  | cons y yss => exact h.elim
end

end Go.Lm
