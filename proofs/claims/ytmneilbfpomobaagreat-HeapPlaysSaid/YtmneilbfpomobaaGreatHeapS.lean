/- Package heap, the plain law: what up and down do to an array of items that is a heap but for one place. No program, no memory. -/
import Derived.WalkKit
namespace Go.Proofs.YtmneilbfpomobaaGreat

/-- An item: its block, its time, its id, its value. -/
structure It (β : Type) where
  b : Nat
  at_ : Int
  id : Int
  v : β

section
variable {β : Type}

/-- told no later than -/
def It.le (x y : It β) : Prop := x.at_ < y.at_ ∨ (x.at_ = y.at_ ∧ x.id ≤ y.id)
def It.lt (x y : It β) : Prop := x.at_ < y.at_ ∨ (x.at_ = y.at_ ∧ x.id < y.id)
instance (x y : It β) : Decidable (x.lt y) := by unfold It.lt; infer_instance
instance (x y : It β) : Decidable (x.le y) := by unfold It.le; infer_instance

theorem It.not_lt {x y : It β} : ¬ x.lt y ↔ y.le x := by unfold It.lt It.le; omega
theorem It.not_le {x y : It β} : ¬ x.le y ↔ y.lt x := by unfold It.lt It.le; omega
theorem It.le_refl (x : It β) : x.le x := by unfold It.le; omega
theorem It.le_trans {x y z : It β} (h : x.le y) (k : y.le z) : x.le z := by unfold It.le at *; omega
theorem It.lt_le {x y : It β} (h : x.lt y) : x.le y := by unfold It.lt It.le at *; omega

/-- what compare answers -/
def cmp (x y : It β) : Int := if x.at_ < y.at_ then -1 else if y.at_ < x.at_ then 1 else if x.id < y.id then -1 else if y.id < x.id then 1 else 0
theorem cmp_neg {x y : It β} : cmp x y < 0 ↔ x.lt y := by unfold cmp It.lt; split <;> (try split) <;> (try split) <;> (try split) <;> omega

/-- the parent's place -/
def par (k : Nat) : Nat := (k - 1) / 2

def swapA (a : Nat → It β) (i j : Nat) : Nat → It β := fun k => if k = i then a j else if k = j then a i else a k

/-- A heap of n. -/
def HeapOrd (a : Nat → It β) (n : Nat) : Prop := ∀ k, 0 < k → k < n → (a (par k)).le (a k)
/-- .. but for i, which may be less than its parent. -/
def UpOk (a : Nat → It β) (n i : Nat) : Prop := (∀ k, 0 < k → k < n → k ≠ i → (a (par k)).le (a k)) ∧ ∀ k, 0 < k → k < n → par k = i → 0 < i → (a (par i)).le (a k)
/-- .. but for i, which may be greater than its children. -/
def DownOk (a : Nat → It β) (n i : Nat) : Prop := (∀ k, 0 < k → k < n → par k ≠ i → (a (par k)).le (a k)) ∧ ∀ k, 0 < k → k < n → par k = i → 0 < i → (a (par i)).le (a k)
/-- .. but for i, of which nothing is known. -/
def Hole (a : Nat → It β) (n i : Nat) : Prop := (∀ k, 0 < k → k < n → k ≠ i → par k ≠ i → (a (par k)).le (a k)) ∧ ∀ k, 0 < k → k < n → par k = i → 0 < i → (a (par i)).le (a k)

variable {a : Nat → It β} {n i : Nat}

theorem HeapOrd.min (h : HeapOrd a n) : ∀ k, k < n → (a 0).le (a k) := by
  intro k
  induction k using Nat.strongRecOn with
  | ind k ih =>
    intro hk
    by_cases h0 : k = 0
    · subst h0; exact It.le_refl _
    · have hp : par k < k := by unfold par; omega
      exact It.le_trans (ih (par k) hp (by omega)) (h k (by omega) hk)

theorem HeapOrd.less (h : HeapOrd a n) {m : Nat} (hm : m ≤ n) : HeapOrd a m := fun k h0 hk => h k h0 (by omega)

theorem UpOk.stop (h : UpOk a n i) (hs : i = 0 ∨ ¬ (a i).lt (a (par i))) : HeapOrd a n := by
  intro k h0 hk
  by_cases e : k = i
  · subst e
    rcases hs with rfl | hs
    · omega
    · exact It.not_lt.1 hs
  · exact h.1 k h0 hk e

theorem UpOk.step (h : UpOk a n i) (h0 : 0 < i) (hi : i < n) (hlt : (a i).lt (a (par i))) : UpOk (swapA a i (par i)) n (par i) := by
  have hp : par i < i := by unfold par; omega
  have hxp := It.lt_le hlt
  refine ⟨fun k k0 hk hne => ?_, fun k k0 hk hpk h0p => ?_⟩
  · by_cases e : k = i
    · subst e
      simp only [swapA]
      rw [if_neg (by omega)]; exact hxp
    · have e2 : swapA a i (par i) k = a k := by simp [swapA, e, hne]
      rw [e2]
      by_cases e3 : par k = i
      · have : swapA a i (par i) (par k) = a (par i) := by simp [swapA, e3]
        rw [this]; exact h.2 k k0 hk e3 h0
      · by_cases e4 : par k = par i
        · have : swapA a i (par i) (par k) = a i := by simp only [swapA, if_neg e3, if_pos e4]
          rw [this]
          exact It.le_trans hxp (by have := h.1 k k0 hk e; rw [e4] at this; exact this)
        · have : swapA a i (par i) (par k) = a (par k) := by simp [swapA, e3, e4]
          rw [this]; exact h.1 k k0 hk e
  · have hpp : par (par i) < par i := by unfold par at *; omega
    have e1 : swapA a i (par i) (par (par i)) = a (par (par i)) := by
      simp only [swapA]; rw [if_neg (by omega), if_neg (by omega)]
    rw [e1]
    have hpar : (a (par (par i))).le (a (par i)) := h.1 (par i) h0p (by omega) (by omega)
    by_cases e : k = i
    · subst e
      simp only [swapA]; exact hpar
    · have e2 : swapA a i (par i) k = a k := by
        have : k ≠ par i := by intro q; subst q; unfold par at *; omega
        simp [swapA, e, this]
      rw [e2]
      exact It.le_trans hpar (by have := h.1 k k0 hk e; rw [hpk] at this; exact this)

/-- The first step up from a hole. -/
theorem Hole.up (h : Hole a n i) (h0 : 0 < i) (hi : i < n) (hlt : (a i).lt (a (par i))) : UpOk (swapA a i (par i)) n (par i) := by
  have hp : par i < i := by unfold par; omega
  have hxp := It.lt_le hlt
  refine ⟨fun k k0 hk hne => ?_, fun k k0 hk hpk h0p => ?_⟩
  · by_cases e : k = i
    · subst e
      simp only [swapA]
      rw [if_neg (by omega)]; exact hxp
    · have e2 : swapA a i (par i) k = a k := by simp [swapA, e, hne]
      rw [e2]
      by_cases e3 : par k = i
      · have : swapA a i (par i) (par k) = a (par i) := by simp [swapA, e3]
        rw [this]; exact h.2 k k0 hk e3 h0
      · by_cases e4 : par k = par i
        · have : swapA a i (par i) (par k) = a i := by simp only [swapA, if_neg e3, if_pos e4]
          rw [this]
          exact It.le_trans hxp (by have := h.1 k k0 hk e e3; rw [e4] at this; exact this)
        · have : swapA a i (par i) (par k) = a (par k) := by simp [swapA, e3, e4]
          rw [this]; exact h.1 k k0 hk e e3
  · have hpp : par (par i) < par i := by unfold par at *; omega
    have e1 : swapA a i (par i) (par (par i)) = a (par (par i)) := by
      simp only [swapA]; rw [if_neg (by omega), if_neg (by omega)]
    rw [e1]
    have hpar : (a (par (par i))).le (a (par i)) := h.1 (par i) h0p (by omega) (by omega) (by omega)
    by_cases e : k = i
    · subst e
      simp only [swapA]; exact hpar
    · have e2 : swapA a i (par i) k = a k := by
        have : k ≠ par i := by intro q; subst q; unfold par at *; omega
        simp [swapA, e, this]
      rw [e2]
      have hne : par k ≠ i := by rw [hpk]; omega
      exact It.le_trans hpar (by have := h.1 k k0 hk e hne; rw [hpk] at this; exact this)

theorem Hole.stay (h : Hole a n i) (hs : i = 0 ∨ ¬ (a i).lt (a (par i))) : DownOk a n i := by
  refine ⟨fun k k0 hk hne => ?_, h.2⟩
  by_cases e : k = i
  · subst e
    rcases hs with rfl | hs
    · omega
    · exact It.not_lt.1 hs
  · exact h.1 k k0 hk e hne

theorem HeapOrd.down (h : HeapOrd a n) (i : Nat) : DownOk a n i := by
  refine ⟨fun k k0 hk _ => h k k0 hk, fun k k0 hk hpk h0 => ?_⟩
  have h1 := h i h0 (by unfold par at hpk; omega)
  have h2 := h k k0 hk
  rw [hpk] at h2
  exact It.le_trans h1 h2

theorem UpOk.hole (h : UpOk a n i) : Hole a n i := ⟨fun k k0 hk hne _ => h.1 k k0 hk hne, h.2⟩

/-- What up knows on its way from i: on the way all is well but for k; at its begin, it may be that nothing is known of i. -/
def UpWay (a0 a : Nat → It β) (n i k : Nat) : Prop := UpOk a n k ∨ (k = i ∧ Hole a n i ∧ ¬ UpOk a0 n i)

theorem UpWay.start (h : Hole a n i) : UpWay a a n i i := by
  by_cases h1 : UpOk a n i
  · exact .inl h1
  · exact .inr ⟨rfl, h, h1⟩
theorem UpWay.step {a0 : Nat → It β} {k : Nat} (h : UpWay a0 a n i k) (h0 : 0 < k) (hk : k < n) (hlt : (a k).lt (a (par k))) : UpWay a0 (swapA a k (par k)) n i (par k) := by
  rcases h with h | ⟨rfl, h, _⟩
  · exact .inl (h.step h0 hk hlt)
  · exact .inl (h.up h0 hk hlt)

/-- which of i and its children is told first -/
def leastOf (a : Nat → It β) (n i : Nat) : Nat :=
  let l := if 2 * i + 1 < n ∧ (a (2 * i + 1)).lt (a i) then 2 * i + 1 else i
  if 2 * i + 2 < n ∧ (a (2 * i + 2)).lt (a l) then 2 * i + 2 else l

/-- .. after t of the two children -/
def leastT (a : Nat → It β) (n i : Nat) : Nat → Nat
  | 0 => i
  | t + 1 => if 2 * i + 1 + t < n ∧ (a (2 * i + 1 + t)).lt (a (leastT a n i t)) then 2 * i + 1 + t else leastT a n i t

theorem leastT_two (a : Nat → It β) (n i : Nat) : leastT a n i 2 = leastOf a n i := rfl
theorem leastT_lt {a : Nat → It β} {n i : Nat} (hi : i < n) : ∀ t, leastT a n i t < n
  | 0 => hi
  | t + 1 => by
    unfold leastT
    split
    · rename_i h; exact h.1
    · exact leastT_lt hi t

theorem leastOf_cases (a : Nat → It β) (n i : Nat) : (leastOf a n i = i ∨ (leastOf a n i < n ∧ par (leastOf a n i) = i ∧ 0 < leastOf a n i ∧ (a (leastOf a n i)).lt (a i))) ∧ ∀ k, 0 < k → k < n → par k = i → (a (leastOf a n i)).le (a k) := by
  have hk2 : ∀ k, 0 < k → par k = i → k = 2 * i + 1 ∨ k = 2 * i + 2 := by intro k h0 h; unfold par at h; omega
  unfold leastOf
  by_cases h1 : 2 * i + 1 < n ∧ (a (2 * i + 1)).lt (a i)
  · simp only [if_pos h1]
    by_cases h2 : 2 * i + 2 < n ∧ (a (2 * i + 2)).lt (a (2 * i + 1))
    · simp only [if_pos h2]
      refine ⟨.inr ⟨h2.1, by unfold par; omega, by omega, ?_⟩, fun k h0 hk hp => ?_⟩
      · have := h2.2; have := h1.2; unfold It.lt at *; omega
      · rcases hk2 k h0 hp with rfl | rfl
        · exact It.lt_le h2.2
        · exact It.le_refl _
    · simp only [if_neg h2]
      refine ⟨.inr ⟨h1.1, by unfold par; omega, by omega, h1.2⟩, fun k h0 hk hp => ?_⟩
      rcases hk2 k h0 hp with rfl | rfl
      · exact It.le_refl _
      · exact It.not_lt.1 (fun q => h2 ⟨hk, q⟩)
  · simp only [if_neg h1]
    by_cases h2 : 2 * i + 2 < n ∧ (a (2 * i + 2)).lt (a i)
    · simp only [if_pos h2]
      refine ⟨.inr ⟨h2.1, by unfold par; omega, by omega, h2.2⟩, fun k h0 hk hp => ?_⟩
      rcases hk2 k h0 hp with rfl | rfl
      · exact It.le_trans (It.lt_le h2.2) (It.not_lt.1 (fun q => h1 ⟨hk, q⟩))
      · exact It.le_refl _
    · simp only [if_neg h2]
      refine ⟨.inl trivial, fun k h0 hk hp => ?_⟩
      rcases hk2 k h0 hp with rfl | rfl
      · exact It.not_lt.1 (fun q => h1 ⟨hk, q⟩)
      · exact It.not_lt.1 (fun q => h2 ⟨hk, q⟩)

theorem DownOk.stop (h : DownOk a n i) (hs : leastOf a n i = i) : HeapOrd a n := by
  intro k k0 hk
  by_cases e : par k = i
  · have := (leastOf_cases a n i).2 k k0 hk e
    rw [hs] at this
    rw [e]; exact this
  · exact h.1 k k0 hk e

theorem DownOk.step (h : DownOk a n i) (hs : leastOf a n i ≠ i) : DownOk (swapA a i (leastOf a n i)) n (leastOf a n i) := by
  obtain ⟨hc, hmin⟩ := leastOf_cases a n i
  generalize leastOf a n i = m at *
  rcases hc with hc | ⟨hmn, hpm, hm0, hlt⟩
  · exact absurd hc hs
  have him : i < m := by unfold par at hpm; omega
  refine ⟨fun k k0 hk hne => ?_, fun k k0 hk hpk _ => ?_⟩
  · by_cases e : k = i
    · subst e
      have e1 : swapA a k m k = a m := by simp [swapA]
      have e2 : swapA a k m (par k) = a (par k) := by
        simp only [swapA]; rw [if_neg (by unfold par at *; omega), if_neg hne]
      rw [e1, e2]
      exact h.2 m hm0 hmn hpm k0
    · by_cases e2 : k = m
      · subst e2
        have e3 : swapA a i k k = a i := by simp [swapA, e]
        have e4 : swapA a i k (par k) = a k := by simp [swapA, hpm]
        rw [e3, e4]; exact It.lt_le hlt
      · have e3 : swapA a i m k = a k := by simp [swapA, e, e2]
        rw [e3]
        by_cases e4 : par k = i
        · have e5 : swapA a i m (par k) = a m := by simp [swapA, e4]
          rw [e5]; exact hmin k k0 hk e4
        · have e5 : swapA a i m (par k) = a (par k) := by simp [swapA, e4, hne]
          rw [e5]; exact h.1 k k0 hk e4
  · have e1 : swapA a i m (par m) = a m := by simp [swapA, hpm]
    have hki : k ≠ i := by intro q; subst q; unfold par at *; omega
    have hkm : k ≠ m := by intro q; subst q; omega
    have e2 : swapA a i m k = a k := by simp [swapA, hki, hkm]
    rw [e1, e2]
    have := h.1 k k0 hk (by rw [hpk]; omega)
    rw [hpk] at this; exact this

theorem UpWay.stop {a0 : Nat → It β} {k : Nat} (h : UpWay a0 a n i k) (hs : k = 0 ∨ ¬ (a k).lt (a (par k))) : (UpOk a0 n i → HeapOrd a n) ∧ DownOk a n i := by
  rcases h with h | ⟨rfl, h, hn⟩
  · exact ⟨fun _ => h.stop hs, (h.stop hs).down i⟩
  · exact ⟨fun q => absurd q hn, h.stay hs⟩

/-- The last one comes to the place i, and n falls by one. -/
theorem HeapOrd.hole (h : HeapOrd a (n + 1)) (hi : i < n) : Hole (swapA a i n) n i := by
  have e : ∀ k, k < n → k ≠ i → swapA a i n k = a k := by
    intro k hk hne
    simp only [swapA, if_neg hne]; rw [if_neg (by omega)]
  refine ⟨fun k k0 hk hne hnp => ?_, fun k k0 hk hpk h0 => ?_⟩
  · rw [e k hk hne, e (par k) (by unfold par; omega) hnp]
    exact h k k0 (by omega)
  · have hki : k ≠ i := by intro q; subst q; unfold par at hpk; omega
    rw [e k hk hki, e (par i) (by unfold par; omega) (by unfold par; omega)]
    have h1 := h i h0 (by omega)
    have h2 := h k k0 (by omega)
    rw [hpk] at h2
    exact It.le_trans h1 h2

/-- A new one comes last. -/
theorem HeapOrd.last (h : HeapOrd a n) (x : It β) : UpOk (fun k => if k = n then x else a k) (n + 1) n := by
  refine ⟨fun k k0 hk hne => ?_, fun k k0 hk hpk h0 => ?_⟩
  · have hkn : k < n := by omega
    have hp : par k ≠ n := by unfold par; omega
    simp only [if_neg hne, if_neg hp]
    exact h k k0 hkn
  · unfold par at hpk; omega

/-! ### the items, whatever their places -/
/-- The array holds just the items of R. -/
structure Items (a : Nat → It β) (n : Nat) (R : List (It β)) : Prop where
  perm : ((List.range n).map a).Perm R
  ids : (R.map (·.id)).Nodup

theorem range_swap (a : Nat → It β) {n i j : Nat} (hi : i < n) (hj : j < n) : ((List.range n).map (swapA a i j)).Perm ((List.range n).map a) := by
  have e : (List.range n).map (swapA a i j) = ((List.range n).map fun k => if k = i then j else if k = j then i else k).map a := by
    rw [List.map_map]
    refine List.map_congr_left fun k _ => ?_
    simp only [swapA, Function.comp]
    split
    · rfl
    · split <;> rfl
  rw [e]
  refine List.Perm.map a ?_
  refine (List.perm_ext_iff_of_nodup ?_ List.nodup_range).2 fun k => ?_
  · rw [List.Nodup, List.pairwise_map]
    refine List.nodup_range.imp fun {x y} h q => h ?_
    split at q <;> split at q <;> (try split at q) <;> (try split at q) <;> omega
  · simp only [List.mem_map, List.mem_range]
    constructor
    · rintro ⟨x, hx, rfl⟩
      split
      · exact hj
      · split
        · exact hi
        · exact hx
    · intro hk
      refine ⟨if k = i then j else if k = j then i else k, ?_, ?_⟩
      · split
        · exact hj
        · split
          · exact hi
          · exact hk
      · by_cases h1 : k = i
        · simp only [if_pos h1]
          by_cases h2 : j = i
          · simp only [if_pos h2]; omega
          · simp only [if_neg h2, if_true]; omega
        · by_cases h2 : k = j
          · simp only [if_neg h1, if_pos h2, if_true]; omega
          · simp only [if_neg h1, if_neg h2]

theorem Items.swap {R : List (It β)} (h : Items a n R) {j : Nat} (hi : i < n) (hj : j < n) : Items (swapA a i j) n R := ⟨(range_swap a hi hj).trans h.perm, h.ids⟩

theorem Items.mem {R : List (It β)} (h : Items a n R) {x : It β} : x ∈ R ↔ ∃ k, k < n ∧ a k = x := by
  rw [← h.perm.mem_iff]; simp only [List.mem_map, List.mem_range]

theorem Items.len {R : List (It β)} (h : Items a n R) : R.length = n := by rw [← h.perm.length_eq]; simp

theorem inj_id {R : List (It β)} (h : (R.map (·.id)).Nodup) {x y : It β} (hx : x ∈ R) (hy : y ∈ R) (e : x.id = y.id) : x = y := by
  induction R with
  | nil => cases hx
  | cons z r ih =>
    simp only [List.map_cons, List.nodup_cons] at h
    rcases List.mem_cons.1 hx with hx' | hx'
    · rcases List.mem_cons.1 hy with hy' | hy'
      · rw [hx', hy']
      · exact (h.1 (List.mem_map.2 ⟨y, hy', e.symm.trans (congrArg _ hx')⟩)).elim
    · rcases List.mem_cons.1 hy with hy' | hy'
      · exact (h.1 (List.mem_map.2 ⟨x, hx', e.trans (congrArg _ hy')⟩)).elim
      · exact ih h.2 hx' hy'

/-- No item stands twice. -/
theorem Items.inj {R : List (It β)} (h : Items a n R) {j : Nat} (hi : i < n) (hj : j < n) (e : (a i).id = (a j).id) : i = j := by
  have hn : (((List.range n).map a).map (·.id)).Nodup := (h.perm.map _).nodup_iff.2 h.ids
  have e1 : (((List.range n).map a).map (·.id))[i]'(by simpa using hi) = (((List.range n).map a).map (·.id))[j]'(by simpa using hj) := by
    simp only [List.getElem_map, List.getElem_range]; exact e
  exact (List.getElem_inj hn).1 e1

/-- The last one goes. -/
theorem Items.drop {R : List (It β)} (h : Items a (n + 1) R) : Items a n (R.filter fun x => decide (x.id ≠ (a n).id)) := by
  have hn : (((List.range (n + 1)).map a).map (·.id)).Nodup := (h.perm.map _).nodup_iff.2 h.ids
  have hp := h.perm.filter (fun x => decide (x.id ≠ (a n).id))
  rw [List.range_succ, List.map_append, List.map_cons, List.map_nil] at hp hn
  refine ⟨?_, (List.filter_sublist.map _).nodup h.ids⟩
  rw [List.map_append, List.map_cons, List.map_nil, List.nodup_append] at hn
  have hk : ∀ x ∈ (List.range n).map a, x.id ≠ (a n).id := fun x hx => hn.2.2 _ (List.mem_map.2 ⟨x, hx, rfl⟩) _ (by simp)
  rw [List.filter_append, List.filter_eq_self.2 (fun x hx => by simp [hk x hx])] at hp
  simpa using hp

/-- A new one comes. -/
theorem Items.push {R : List (It β)} (h : Items a n R) (x : It β) (hx : ∀ y ∈ R, y.id ≠ x.id) : Items (fun k => if k = n then x else a k) (n + 1) (x :: R) := by
  refine ⟨?_, ?_⟩
  · rw [List.range_succ, List.map_append, List.map_cons, List.map_nil, if_pos rfl]
    have e : (List.range n).map (fun k => if k = n then x else a k) = (List.range n).map a := List.map_congr_left fun k hk => by
      have := List.mem_range.1 hk
      rw [if_neg (by omega)]
    rw [e]
    exact List.perm_append_comm.trans (List.Perm.cons x h.perm)
  · simp only [List.map_cons, List.nodup_cons]
    refine ⟨fun q => ?_, h.ids⟩
    obtain ⟨y, hy, e⟩ := List.mem_map.1 q
    exact hx y hy e

end
end Go.Proofs.YtmneilbfpomobaaGreat
