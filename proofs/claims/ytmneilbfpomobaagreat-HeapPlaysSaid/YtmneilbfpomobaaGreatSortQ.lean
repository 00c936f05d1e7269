/- The places of a heap's array in the order of what waits. No program. -/
import Derived.Test.YtmneilbfpomobaaGreatHeapQ
namespace Go.Proofs.YtmneilbfpomobaaGreat

theorem map_finRange {γ : Type} {n : Nat} (a : Nat → γ) : (List.finRange n).map (fun i => a i.val) = (List.range n).map a :=
  List.ext_getElem (by simp) fun i h1 h2 => by simp

theorem sorted_places {β : Type} {n : Nat} {a : Nat → It β} {R : List (It β)} (h : Items a n R) (hs : R.Pairwise It.le) (le : Fin n → Fin n → Bool) (hle : ∀ i j, le i j = true ↔ (a i).le (a j)) :
    ((List.finRange n).mergeSort le).map (fun i => a i.val) = R := by
  refine List.Perm.eq_of_pairwise (le := It.le) ?_ ?_ hs ?_
  · intro x y hx hy h1 h2
    obtain ⟨i, _, rfl⟩ := List.mem_map.1 hx
    exact inj_id h.ids (h.mem.2 ⟨i, i.2, rfl⟩) hy (by unfold It.le at *; omega)
  · have hp := List.pairwise_mergeSort (le := le) (fun x y z h1 h2 => by rw [hle] at *; unfold It.le at *; omega) (fun x y => by
      rw [Bool.or_eq_true, hle, hle]; unfold It.le; omega) (List.finRange n)
    exact List.pairwise_map.2 (hp.imp fun {x y} q => (hle x y).1 q)
  · have := (List.mergeSort_perm (List.finRange n) le).map (fun i => a i.val)
    rw [map_finRange a] at this
    exact this.trans h.perm

end Go.Proofs.YtmneilbfpomobaaGreat
