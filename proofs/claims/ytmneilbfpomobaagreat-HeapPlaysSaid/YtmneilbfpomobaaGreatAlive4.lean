/- The first call of chapter 4's statements ('alive'): it returns true, and touches nothing that was there. -/
import Derived.Test.YtmneilbfpomobaaGreatHq
namespace Go.Proofs.YtmneilbfpomobaaGreat
open Go.RowKit
namespace HI

set_option maxRecDepth 100000 in
theorem alive_any (w : World) : Calls Tryz.prog 4 #[] w fun e w' => e = .returned (.bool true) ∧ Below w.heap.size w w' := by
  go_enter Tryz.func4, Tryz.ntmps4
  go_wp2_with fail
  refine (new_any w).mono ?_
  rintro e w1 ⟨c, F0, rfl, h0, o0, hF0⟩
  have b0 := Below.then_only (Nat.le_refl _) (Below.refl _ _) o0 (fun b q => q.elim)
  clear o0
  go_wp2_with fail
  have hp := put_any h0 (by simp) (by omega) (by omega) 5 50
  have e1 : insW ⟨5, 1, 50⟩ ([] : List (Wt Int)) = [⟨5, 1, 50⟩] := rfl
  have e2 : (0 : Int) + 1 = 1 := rfl
  simp only [e2, e1] at hp
  clear e1 e2
  refine hp.mono ?_
  clear hp
  rintro e w2 ⟨F1, rfl, h1, o1, hF1⟩
  have b1 := Below.then_only (Nat.le_refl _) b0 o1 hF0
  have hG1 : ∀ b, F1 b → w.heap.size ≤ b := fun b q => (hF1 b q).elim (hF0 b) (fun q => Nat.le_trans b0.size q)
  clear h0 o1 hF1 hF0 b0
  go_wp2_with fail
  have hp := put_any h1 (by simp) (by omega) (by omega) 3 30
  have e1 : insW ⟨3, 2, 30⟩ ([⟨5, 1, 50⟩] : List (Wt Int)) = [⟨3, 2, 30⟩, ⟨5, 1, 50⟩] := rfl
  have e2 : (1 : Int) + 1 = 2 := rfl
  simp only [e2, e1] at hp
  clear e1 e2
  refine hp.mono ?_
  clear hp
  rintro e w3 ⟨F2, rfl, h2, o2, hF2⟩
  have b2 := Below.then_only (Nat.le_refl _) b1 o2 hG1
  have hG2 : ∀ b, F2 b → w.heap.size ≤ b := fun b q => (hF2 b q).elim (hG1 b) (fun q => Nat.le_trans b1.size q)
  clear h1 o2 hF2 hG1 b1
  go_wp2_with fail
  have hp := take_any h2 (by simp) 4
  have e1 : takeV ([⟨3, 2, 30⟩, ⟨5, 1, 50⟩] : List (Wt Int)) 4 = .tuple #[.int .i64 30, .bool true] := rfl
  have e2 : takeW ([⟨3, 2, 30⟩, ⟨5, 1, 50⟩] : List (Wt Int)) 4 = [⟨5, 1, 50⟩] := rfl
  simp only [e2, e1] at hp
  clear e1 e2
  refine hp.mono ?_
  clear hp
  rintro e w4 ⟨rfl, h3, o3⟩
  have b3 := Below.then_only (Nat.le_refl _) b2 o3 hG2
  clear h2 o3 b2
  go_wp2_with fail
  have hp := take_any h3 (by simp) 4
  have e1 : takeV ([⟨5, 1, 50⟩] : List (Wt Int)) 4 = .tuple #[.int .i64 0, .bool false] := rfl
  have e2 : takeW ([⟨5, 1, 50⟩] : List (Wt Int)) 4 = [⟨5, 1, 50⟩] := rfl
  simp only [e2, e1] at hp
  clear e1 e2
  refine hp.mono ?_
  clear hp
  rintro e w5 ⟨rfl, h4, o4⟩
  have b4 := Below.then_only (Nat.le_refl _) b3 o4 hG2
  clear h3 o4 hG2 b3
  go_wp2_with fail
  refine (len_any h4).mono ?_
  rintro e w6 ⟨rfl, rfl⟩
  simp only [List.length_cons, List.length_nil]
  go_wp2_with fail
  go_ret
  exact ⟨rfl, b4⟩

end HI
end Go.Proofs.YtmneilbfpomobaaGreat
