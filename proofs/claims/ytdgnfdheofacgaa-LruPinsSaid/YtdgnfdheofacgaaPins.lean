/- LruPins: pins add up, and a key goes only when each of its pins is gone: the walk of the statement. -/
import Derived.Test.YtdgnfdheofacgaaAlive5
namespace Go.Proofs.Ytdgnfdheofacgaa
open Go.RowKit
namespace II

theorem pins_full (p : Int) (hp : p ≠ 0) : putS 1 ([⟨1, 5, p⟩] : List (Slot Int Int)) 2 6 = ([⟨1, 5, p⟩], none, false) := by
  simp [putS, slotOf, idleS, hp]
theorem pins_last : putS 1 ([⟨1, 5, 0⟩] : List (Slot Int Int)) 2 6 = ([⟨2, 6, 0⟩], some ⟨1, 5, 0⟩, true) := rfl
theorem pins_less (p : Int) : (turnS ([⟨1, 5, p⟩] : List (Slot Int Int)) 1 fun s => { s with pins := s.pins - 1 }) = [⟨1, 5, p - 1⟩] := rfl
theorem pins_can (p : Int) (hp : p ≠ 0) : canUnpin (slotOf ([⟨1, 5, p⟩] : List (Slot Int Int)) 1) = true := by simp [canUnpin, slotOf, hp]

theorem pins_walk (n : Int) (w : World) : Calls Try.prog 5 #[.int .i64 n] w fun e w' => e = .returned (.bool true) ∧ Below w.heap.size w w' := by
  by_cases hout : n < 1 ∨ 30 < n
  · rcases hout with hlt | hgt
    · go_enter Try.func5, Try.ntmps5
      go_wp2_with fail
      refine (alive_any _).mono ?_
      rintro e w1 ⟨rfl, hb⟩
      go_wp2_with fail
      go_ret
      exact ⟨rfl, hb⟩
    · have h1 : ¬ n < 1 := by omega
      go_enter Try.func5, Try.ntmps5
      go_wp2_with fail
      refine (alive_any _).mono ?_
      rintro e w1 ⟨rfl, hb⟩
      go_wp2_with fail
      go_ret
      exact ⟨rfl, hb⟩
  · obtain ⟨n, rfl⟩ : ∃ m : Nat, n = m := ⟨n.toNat, by omega⟩
    have hn1 : 1 ≤ n := by omega
    have hn2 : n ≤ 30 := by omega
    have ht1 : ¬ (n : Int) < 1 := by omega
    have ht2 : ¬ 30 < (n : Int) := by omega
    clear hout
    go_enter Try.func5, Try.ntmps5
    go_wp2_with fail
    refine (new_any 1 w).mono ?_
    rintro e w1 ⟨c, F0, rfl, h0, o0, hF0⟩
    have e0 : cap 1 = 1 := rfl
    rw [e0] at h0
    clear e0
    have b0 := Below.then_only (Nat.le_refl _) (Below.refl _ _) o0 (fun b q => q.elim)
    clear o0
    go_wp2_with fail
    have hp := put_any h0 1 5
    have e1 : putS 1 ([] : List (Slot Int Int)) 1 5 = ([⟨1, 5, 0⟩], none, true) := rfl
    simp only [e1, keyG, valG, Option.isSome] at hp
    clear e1
    refine hp.mono ?_
    clear hp
    rintro e w2 ⟨F1, rfl, h1, o1, hF1⟩
    have b1 := Below.then_only (Nat.le_refl _) b0 o1 hF0
    have hG1 : ∀ b, F1 b → w.heap.size ≤ b := fun b q => (hF1 b q).elim (hF0 b) (fun q => Nat.le_trans b0.size q)
    clear h0 o1 hF1 hF0 b0
    go_wp2_with fail
    go_loopw [4] (fun i wr => ∃ k : Nat, k ≤ n ∧ i = .int .i64 k ∧ Is F1 wr c 1 [⟨1, 5, (k : Int)⟩] ∧ Below w.heap.size w wr) (fun i _ => n - (intOf i).toNat)
    case atStart => exact ⟨0, Nat.zero_le _, rfl, h1, b1⟩
    case round =>
      clear h1 b1
      obtain ⟨k, hk, rfl, h1, b1⟩ := hrel
      by_cases hlt : k < n
      · go_wp2_with fail
        have hp := pin_any h1 1 (by intro s hs; simp [slotOf] at hs; subst hs; simp only; omega)
        have e1 : (turnS ([⟨1, 5, (k : Int)⟩] : List (Slot Int Int)) 1 fun s => { s with pins := s.pins + 1 }) = [⟨1, 5, (k : Int) + 1⟩] := rfl
        have e2 : slotOf ([⟨1, 5, (k : Int)⟩] : List (Slot Int Int)) 1 = some ⟨1, 5, (k : Int)⟩ := rfl
        simp only [e1, e2, Option.isSome] at hp
        clear e1 e2
        refine hp.mono ?_
        clear hp
        rintro e w3 ⟨rfl, h2, o2⟩
        have b2 := Below.then_only (Nat.le_refl _) b1 o2 hG1
        clear o2 h1 b1
        go_wp2_with fail
        have hp := pinned_any h2 1
        have e2 : slotOf ([⟨1, 5, (k : Int) + 1⟩] : List (Slot Int Int)) 1 = some ⟨1, 5, (k : Int) + 1⟩ := rfl
        simp only [e2, pinsOf] at hp
        clear e2
        refine hp.mono ?_
        clear hp
        rintro e w4 ⟨rfl, rfl⟩
        go_wp2_with fail
        go_roundw
        case rel => exact ⟨k + 1, hlt, by go_num, h2, b2⟩
        case measure => simp [intOf]; omega
      · obtain rfl : k = n := by omega
        clear hlt hk
        go_wp2_with fail
        go_loopw [5, 6, 7, 8, 9] (fun i _ _ _ _ wr => ∃ j : Nat, j ≤ k ∧ i = .int .i64 j ∧ (∃ F, (∀ b, F b → w.heap.size ≤ b) ∧ Is F wr c 1 [⟨1, 5, ((k - j : Nat) : Int)⟩]) ∧ Below w.heap.size w wr) (fun i _ _ _ _ _ => k - (intOf i).toNat)
        case atStart => exact ⟨0, Nat.zero_le _, rfl, ⟨F1, hG1, h1⟩, b1⟩
        case round =>
          clear h1 b1 hG1
          obtain ⟨j, hj, rfl, ⟨F1, hG1, h1⟩, b1⟩ := hrel
          by_cases hlt : j < k
          · go_wp2_with fail
            have hp := put_any h1 2 6
            simp only [pins_full _ (show ((k - j : Nat) : Int) ≠ 0 by omega), keyG, valG, Option.isSome] at hp
            refine hp.mono ?_
            clear hp
            rintro e w3 ⟨F2, rfl, h2, o2, hF2⟩
            have b2 := Below.then_only (Nat.le_refl _) b1 o2 hG1
            have hG2 : ∀ b, F2 b → w.heap.size ≤ b := fun b q => (hF2 b q).elim (hG1 b) (fun q => Nat.le_trans b1.size q)
            clear o2 h1 b1 hF2
            go_wp2_with fail
            have hp := unpin_any h2 1 (by intro s hs; simp at hs; subst hs; simp only; omega)
            simp only [pins_can _ (show ((k - j : Nat) : Int) ≠ 0 by omega), pins_less, if_pos] at hp
            refine hp.mono ?_
            clear hp
            rintro e w4 ⟨rfl, h3, o3⟩
            have b3 := Below.then_only (Nat.le_refl _) b2 o3 hG2
            have e4 : ((k - j : Nat) : Int) - 1 = ((k - (j + 1) : Nat) : Int) := by omega
            rw [e4] at h3
            clear o3 h2 b2 e4
            go_wp2_with fail
            go_roundw
            case rel => exact ⟨j + 1, hlt, by go_num, ⟨F2, hG2, h3⟩, b3⟩
            case measure => simp [intOf]; omega
          · obtain rfl : j = k := by omega
            rw [show ((j - j : Nat) : Int) = 0 by omega] at h1
            clear hlt hj
            go_wp2_with fail
            have hp := put_any h1 2 6
            simp only [pins_last, keyG, valG, Option.isSome] at hp
            refine hp.mono ?_
            clear hp
            rintro e w3 ⟨F2, rfl, h2, o2, hF2⟩
            have b2 := Below.then_only (Nat.le_refl _) b1 o2 hG1
            have hG2 : ∀ b, F2 b → w.heap.size ≤ b := fun b q => (hF2 b q).elim (hG1 b) (fun q => Nat.le_trans b1.size q)
            clear o2 h1 b1 hF2
            go_wp2_with fail
            refine (alive_any _).mono ?_
            rintro e w4 ⟨rfl, hb⟩
            have h3 := h2.kept (Below.only hb) (fun b q => Nat.not_le.2 (h2.flt b q))
            have b3 : Below w.heap.size w w4 := b2.trans (hb.mono b2.size)
            clear hb h2 b2
            go_wp2_with fail
            have hp := unpin_any h3 2 (by intro s hs; simp at hs; subst hs; simp)
            have e1 : canUnpin (slotOf ([⟨2, 6, 0⟩] : List (Slot Int Int)) 2) = false := rfl
            simp only [e1] at hp
            clear e1
            refine hp.mono ?_
            clear hp
            rintro e w5 ⟨rfl, h4, o4⟩
            have b4 := Below.then_only (Nat.le_refl _) b3 o4 hG2
            simp only [Bool.false_eq_true, if_false] at h4
            clear o4 h3 b3
            go_wp2_with fail
            have hp := pin_any h4 1 (by intro s hs; simp [slotOf] at hs)
            have e1 : slotOf ([⟨2, 6, 0⟩] : List (Slot Int Int)) 1 = none := rfl
            simp only [e1, Option.isSome] at hp
            clear e1
            refine hp.mono ?_
            clear hp
            rintro e w6 ⟨rfl, h5, o5⟩
            have b5 := Below.then_only (Nat.le_refl _) b4 o5 hG2
            clear o5 h4 b4 h5
            go_wp2_with fail
            go_ret
            exact ⟨rfl, b5⟩

end II
end Go.Proofs.Ytdgnfdheofacgaa
