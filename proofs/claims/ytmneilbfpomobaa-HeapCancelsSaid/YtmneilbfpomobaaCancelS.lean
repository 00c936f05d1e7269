/- The plain law of HeapCancels: what is cancelled never comes, all else comes once. No program. -/
import Derived.Test.YtmneilbfpomobaaSortS
namespace Go.Proofs.Ytmneilbfpomobaa
open Go.RowKit

theorem insW_perm {β : Type} (x : Wt β) : ∀ W : List (Wt β), (x :: W).Perm (insW x W)
  | [] => List.Perm.refl _
  | y :: r => by
    unfold insW
    split
    · exact (List.Perm.swap y x r).trans (List.Perm.cons y (insW_perm x r))
    · exact List.Perm.refl _

/-- What waits bears the numbers below k. -/
structure Ids (z : Nat → Int) (k : Nat) (W : List (Wt Int)) : Prop where
  id : ∀ x ∈ W, x.id = x.v + 1
  low : ∀ x ∈ W, 0 ≤ x.v
  high : ∀ x ∈ W, x.v < k
  at_ : ∀ x ∈ W, x.at_ = z x.v.toNat
  nd : (W.map (·.id)).Nodup

theorem Ids.sub {z : Nat → Int} {k : Nat} {W W' : List (Wt Int)} (h : Ids z k W) (hs : W'.Sublist W) : Ids z k W' :=
  ⟨fun x hx => h.id x (hs.subset hx), fun x hx => h.low x (hs.subset hx), fun x hx => h.high x (hs.subset hx), fun x hx => h.at_ x (hs.subset hx), List.Sublist.nodup (hs.map _) h.nd⟩

/-- All of them wait. -/
structure Full (z : Nat → Int) (k : Nat) (W : List (Wt Int)) : Prop extends Ids z k W where
  all : ∀ i : Nat, i < k → ∃ x ∈ W, x.v = i
  len : W.length = k

theorem Full.nil (z : Nat → Int) : Full z 0 [] := ⟨⟨by simp, by simp, by simp, by simp, by simp⟩, fun i hi => by omega, rfl⟩

theorem Full.put {z : Nat → Int} {k : Nat} {W : List (Wt Int)} (h : Full z k W) : Full z (k + 1) (insW ⟨z k, k + 1, k⟩ W) := by
  have hm : ∀ y, y ∈ insW (⟨z k, k + 1, k⟩ : Wt Int) W ↔ y = ⟨z k, k + 1, k⟩ ∨ y ∈ W := fun y => mem_insW _ y W
  refine ⟨⟨fun x hx => ?_, fun x hx => ?_, fun x hx => ?_, fun x hx => ?_, ?_⟩, fun i hi => ?_, by rw [length_insW, h.len]⟩
  · rcases (hm x).1 hx with rfl | hx
    · rfl
    · exact h.id x hx
  · rcases (hm x).1 hx with rfl | hx
    · simp
    · exact h.low x hx
  · rcases (hm x).1 hx with rfl | hx
    · simp; omega
    · have := h.high x hx; omega
  · rcases (hm x).1 hx with rfl | hx
    · simp
    · exact h.at_ x hx
  · refine (((insW_perm (⟨z k, k + 1, k⟩ : Wt Int) W).map (·.id)).nodup_iff).1 ?_
    rw [List.map_cons, List.nodup_cons]
    refine ⟨fun q => ?_, h.nd⟩
    obtain ⟨x, hx, e⟩ := List.mem_map.1 q
    have h1 := h.id x hx
    have h2 := h.high x hx
    simp only at e
    omega
  · by_cases e : i = k
    · subst e; exact ⟨_, (hm _).2 (.inl rfl), rfl⟩
    · obtain ⟨x, hx, hv⟩ := h.all i (by omega)
      exact ⟨x, (hm x).2 (.inr hx), hv⟩

/-- A mark is set. -/
def mark (g : Nat → Bool) (k : Nat) : Nat → Bool := fun i => if i = k then true else g i

/-- What is not marked waits. -/
structure Marks (z : Nat → Int) (n : Nat) (g : Nat → Bool) (W : List (Wt Int)) : Prop extends Ids z n W where
  iff : ∀ i : Nat, i < n → (g i = false ↔ ∃ x ∈ W, x.v = i)
  len : W.length ≤ n

theorem Full.marks {z : Nat → Int} {n : Nat} {W : List (Wt Int)} (h : Full z n W) : Marks z n (fun _ => false) W :=
  ⟨h.toIds, fun i hi => ⟨fun _ => h.all i hi, fun _ => rfl⟩, by rw [h.len]; exact Nat.le_refl _⟩

section
variable {z : Nat → Int} {n : Nat} {g : Nat → Bool} {W : List (Wt Int)}

theorem find_some (h : Marks z n g W) {k : Nat} (hk : k < n) (hg : g k = false) : (findW W ((k : Int) + 1)).isSome = true := by
  obtain ⟨x, hx, hv⟩ := (h.iff k hk).1 hg
  refine List.find?_isSome.2 ⟨x, hx, ?_⟩
  have := h.id x hx
  simp; omega

theorem find_none (h : Marks z n g W) {key : Int} (hk : ∀ k : Nat, k < n → key = (k : Int) + 1 → g k = true) : findW W key = none := by
  refine List.find?_eq_none.2 fun x hx => ?_
  have h1 := h.id x hx
  have h2 := h.low x hx
  have h3 := h.high x hx
  simp only [decide_eq_true_eq]
  intro e
  have hgt := hk x.v.toNat (by omega) (by omega)
  have hgf := (h.iff x.v.toNat (by omega)).2 ⟨x, hx, by omega⟩
  rw [hgt] at hgf; cases hgf

theorem out_none {key : Int} (h : findW W key = none) : outW W key = W :=
  List.filter_eq_self.2 fun x hx => by
    have := List.find?_eq_none.1 h x hx
    simpa using this

theorem Marks.cancel (h : Marks z n g W) (k : Nat) (_hk : k < n) : Marks z n (mark g k) (outW W ((k : Int) + 1)) := by
  have hs : (outW W ((k : Int) + 1)).Sublist W := List.filter_sublist
  refine ⟨h.toIds.sub hs, fun i hi => ?_, Nat.le_trans hs.length_le h.len⟩
  have hm : ∀ x, x ∈ outW W ((k : Int) + 1) ↔ x ∈ W ∧ x.id ≠ (k : Int) + 1 := fun x => by simp [outW, List.mem_filter]
  by_cases e : i = k
  · subst e
    simp only [mark, if_true]
    constructor
    · intro q; cases q
    · rintro ⟨x, hx, hv⟩
      obtain ⟨h1, h2⟩ := (hm x).1 hx
      have := h.id x h1
      omega
  · simp only [mark, if_neg e]
    rw [h.iff i hi]
    constructor
    · rintro ⟨x, hx, hv⟩
      have := h.id x hx
      exact ⟨x, (hm x).2 ⟨hx, by omega⟩, hv⟩
    · rintro ⟨x, hx, hv⟩
      exact ⟨x, ((hm x).1 hx).1, hv⟩

theorem Marks.take {x : Wt Int} (h : Marks z n g (x :: W)) : g x.v.toNat = false ∧ Marks z n (mark g x.v.toNat) W := by
  have hs : W.Sublist (x :: W) := List.sublist_cons_self _ _
  have h0 := h.low x (by simp)
  have h1 := h.high x (by simp)
  have h2 := h.id x (by simp)
  refine ⟨(h.iff _ (by omega)).2 ⟨x, by simp, by omega⟩, h.toIds.sub hs, fun i hi => ?_, Nat.le_trans hs.length_le h.len⟩
  have hnd := h.nd
  simp only [List.map_cons, List.nodup_cons] at hnd
  by_cases e : i = x.v.toNat
  · subst e
    simp only [mark, if_true]
    constructor
    · intro q; cases q
    · rintro ⟨y, hy, hv⟩
      have := h.id y (by simp [hy])
      exact absurd (List.mem_map.2 ⟨y, hy, by omega⟩) hnd.1
  · simp only [mark, if_neg e]
    rw [h.iff i hi]
    constructor
    · rintro ⟨y, hy, hv⟩
      rcases List.mem_cons.1 hy with rfl | hy
      · omega
      · exact ⟨y, hy, hv⟩
    · rintro ⟨y, hy, hv⟩
      exact ⟨y, by simp [hy], hv⟩

theorem Marks.done (h : Marks z n g []) {i : Nat} (hi : i < n) : g i = true := by
  cases q : g i with
  | true => rfl
  | false => obtain ⟨x, hx, _⟩ := (h.iff i hi).1 q; cases hx

theorem set_marks (g : Nat → Bool) (n k : Nat) : (((List.range n).map fun i => Value.bool (g i)).set k (.bool true)) = (List.range n).map fun i => Value.bool (mark g k i) := by
  refine List.ext_getElem (by simp) fun i h1 h2 => ?_
  rw [List.getElem_set]
  simp only [List.getElem_map, List.getElem_range, mark]
  by_cases e : k = i
  · subst e; simp
  · rw [if_neg e, if_neg (fun q => e q.symm)]

theorem made_marks (n : Nat) : List.replicate n (Value.bool false) = (List.range n).map fun i => Value.bool ((fun _ => false) i) := by
  refine List.ext_getElem (by simp) fun i h1 h2 => by simp
end

end Go.Proofs.Ytmneilbfpomobaa
