/- The first call of chapter 5's statements ('alive'): it returns true, and touches nothing that was there. -/
import Derived.Test.YtdgnfdheofacgaaGreatTII
namespace Go.Proofs.YtdgnfdheofacgaaGreat
open Go.RowKit
namespace II

theorem alive_any (w : World) : Calls Tryz.prog 4 #[] w fun e w' => e = .returned (.bool true) ∧ Below w.heap.size w w' := by
  go_enter Tryz.func4, Tryz.ntmps4
  go_wp2_with fail
  refine (new_any 2 w).mono ?_
  rintro e w1 ⟨c, F0, rfl, h0, o0, hF0⟩
  have e0 : cap 2 = 2 := rfl
  rw [e0] at h0
  clear e0
  have b0 := Below.then_only (Nat.le_refl _) (Below.refl _ _) o0 (fun b q => q.elim)
  clear o0
  go_wp2_with fail
  have hp := put_any h0 1 10
  have e1 : putS 2 ([] : List (Slot Int Int)) 1 10 = ([⟨1, 10, 0⟩], none, true) := rfl
  simp only [e1, keyG, valG, Option.isSome] at hp
  clear e1
  refine hp.mono ?_
  clear hp
  rintro e w2 ⟨F1, rfl, h1, o1, hF1⟩
  have b1 := Below.then_only (Nat.le_refl _) b0 o1 hF0
  have hG1 : ∀ b, F1 b → w.heap.size ≤ b := fun b q => (hF1 b q).elim (hF0 b) (fun q => Nat.le_trans b0.size q)
  clear h0 o1 hF1 hF0 b0
  go_wp2_with fail
  have hp := put_any h1 2 20
  have e1 : putS 2 ([⟨1, 10, 0⟩] : List (Slot Int Int)) 2 20 = ([⟨2, 20, 0⟩, ⟨1, 10, 0⟩], none, true) := rfl
  simp only [e1, keyG, valG, Option.isSome] at hp
  clear e1
  refine hp.mono ?_
  clear hp
  rintro e w3 ⟨F2, rfl, h2, o2, hF2⟩
  have b2 := Below.then_only (Nat.le_refl _) b1 o2 hG1
  have hG2 : ∀ b, F2 b → w.heap.size ≤ b := fun b q => (hF2 b q).elim (hG1 b) (fun q => Nat.le_trans b1.size q)
  clear h1 o2 hF2 hG1 b1
  go_wp2_with fail
  have hp := get_any h2 1
  have e1 : useS ([⟨2, 20, 0⟩, ⟨1, 10, 0⟩] : List (Slot Int Int)) 1 = [⟨1, 10, 0⟩, ⟨2, 20, 0⟩] := rfl
  have e2 : slotOf ([⟨2, 20, 0⟩, ⟨1, 10, 0⟩] : List (Slot Int Int)) 1 = some ⟨1, 10, 0⟩ := rfl
  simp only [e1, e2, valOf, Option.isSome] at hp
  clear e1 e2
  refine hp.mono ?_
  clear hp
  rintro e w4 ⟨rfl, h3, o3⟩
  have b3 := Below.then_only (Nat.le_refl _) b2 o3 hG2
  clear h2 o3 b2
  go_wp2_with fail
  have hp := put_any h3 3 30
  have e1 : putS 2 ([⟨1, 10, 0⟩, ⟨2, 20, 0⟩] : List (Slot Int Int)) 3 30 = ([⟨3, 30, 0⟩, ⟨1, 10, 0⟩], some ⟨2, 20, 0⟩, true) := rfl
  simp only [e1, keyG, valG, Option.isSome] at hp
  clear e1
  refine hp.mono ?_
  clear hp
  rintro e w5 ⟨F4, rfl, h4, o4, hF4⟩
  have b4 := Below.then_only (Nat.le_refl _) b3 o4 hG2
  clear h3 o4 hF4 hG2 b3
  go_wp2_with fail
  refine (len_any h4).mono ?_
  rintro e w6 ⟨rfl, rfl⟩
  simp only [List.length_cons, List.length_nil]
  go_wp2_with fail
  go_ret
  exact ⟨rfl, b4⟩

end II
end Go.Proofs.YtdgnfdheofacgaaGreat
