/- HeapSorts: the walk of the statement. -/
import Derived.Test.YtmneilbfpomobaaAlive4
import Derived.Test.YtmneilbfpomobaaSortS
import Derived.BigQuiet
namespace Go.Proofs.Ytmneilbfpomobaa
open Go.RowKit
namespace HI

theorem takeV_late (x : Wt Int) (W : List (Wt Int)) {now : Int} (h : x.at_ ≤ now) : takeV (x :: W) now = .tuple #[.int .i64 x.v, .bool true] := by simp [takeV, h]
theorem takeW_late {β : Type} (x : Wt β) (W : List (Wt β)) {now : Int} (h : x.at_ ≤ now) : takeW (x :: W) now = W := by simp [takeW, h]

set_option maxRecDepth 100000 in
set_option maxHeartbeats 4000000 in
theorem sorts_main (a1 : Option Addr) (len1 cap1 : Nat) (z1 : List Int) (w : World) (t1 : IsRow .i64 w a1 len1 cap1 z1) (h3 : len1 ≤ 100) :
    Calls Try.prog 3 #[.slice a1 len1 cap1] w fun e w' => e = .returned (.bool true) ∧ Below w.heap.size w w' := by
  have g3 : ¬ 100 < (len1 : Int) := by omega
  obtain ⟨z, hz⟩ : ∃ z : Nat → Int, z = fun i => z1.getD i 0 := ⟨_, rfl⟩
  have HZ := hide hz
  clear hz
  go_enter Try.func3, Try.ntmps3
  go_wp2_with fail
  refine (new_any w).mono ?_
  rintro e w1 ⟨c, F0, rfl, h0, o0, hF0⟩
  have b0 := Below.then_only (Nat.le_refl _) (Below.refl _ _) o0 (fun b q => q.elim)
  clear o0
  go_wp2_with fail
  go_loopw [4] (fun i wr => ∃ (k : Nat) (W : List (Wt Int)), k ≤ len1 ∧ i = .int .i64 k ∧ Below w.heap.size w wr ∧ Good z k W ∧ W.length = k ∧ ∃ F, (∀ b, F b → w.heap.size ≤ b) ∧ Is F wr c W k) (fun i _ => len1 - (intOf i).toNat)
  case atStart => exact ⟨0, [], Nat.zero_le _, rfl, b0, Good.nil _ _, rfl, F0, hF0, h0⟩
  case round =>
    clear h0 b0 hF0
    obtain ⟨k, W, hk, rfl, b1, hG, hWl, F, hF, hS⟩ := hrel
    have HL := hide hWl
    clear hWl
    by_cases hlt : k < len1
    · obtain ⟨b, off, rfl, hcell⟩ := t1.at hlt
      have hc1 : wr.cell? ⟨b, off + k, none⟩ = some (.int .i64 (z k)) := by
        rw [HZ.out]
        exact (b1.cell (p := ⟨b, off + k, none⟩) (lt_of_cell hcell)).trans hcell
      have hadd : IntKind.i64.wrap ((k : Int) + 1) = (k : Int) + 1 := IntWalk.i64_in _ ⟨by omega, by omega⟩
      clear hcell
      go_wp2_with fail
      have hp := put_any hS (by rw [HL.out]; omega) (by omega) (by omega) (z k) (k : Int)
      refine hp.mono ?_
      clear hp
      rintro e w2 ⟨F2, rfl, hS2, o2, hF2⟩
      have b2 := Below.then_only (Nat.le_refl _) b1 o2 hF
      have hG2 : ∀ b, F2 b → w.heap.size ≤ b := fun b q => (hF2 b q).elim (hF b) (fun q => Nat.le_trans b1.size q)
      have hput := hG.put
      have hlen : (insW (⟨z k, (k : Int) + 1, (k : Int)⟩ : Wt Int) W).length = k + 1 := by rw [length_insW, HL.out]
      have HN := hide hlen
      clear hS o2 hF b1 hF2 hlen hG
      go_wp2_with fail
      go_roundw
      case rel => exact ⟨k + 1, _, hlt, by go_num, b2, hput, HN.out, F2, hG2, by simpa using hS2⟩
      case measure => simp [intOf]; omega
    · obtain rfl : k = len1 := by omega
      clear hlt hk
      go_wp2_with fail
      go_loopw [5, 6, 7, 8] (fun l i _ _ wr => ∃ (j : Nat) (last : Int) (W : List (Wt Int)), j ≤ k ∧ i = .int .i64 j ∧ l = .int .i64 last ∧ Below w.heap.size w wr ∧ Good z k W ∧ W.length = k - j ∧ Ahead z k last W ∧ Is F wr c W k) (fun _ i _ _ _ => k - (intOf i).toNat)
      case atStart => exact ⟨0, -1, W, Nat.zero_le _, rfl, rfl, b1, hG, HL.out, .inl rfl, hS⟩
      case round =>
        clear b1 hG HL hS
        obtain ⟨j, last, W, hj, rfl, rfl, b1, hG, hWl, hA, hS⟩ := hrel
        have HL := hide hWl
        clear hWl
        by_cases hlt : j < k
        · obtain ⟨x, W, rfl⟩ : ∃ x W', W = x :: W' := by
            cases W with
            | nil => have := HL.out; simp at this; omega
            | cons x W => exact ⟨x, W, rfl⟩
          have hx0 := hG.low x (by simp)
          have hx1 := hG.high x (by simp)
          have hxa := hG.at_ x (by simp)
          obtain ⟨q, hq⟩ : ∃ q : Nat, x.v = q := ⟨x.v.toNat, by omega⟩
          have hqk : q < k := by omega
          have hle : x.at_ ≤ 9223372036854775807 := by rw [hxa, HZ.out]; exact t1.fits (by omega)
          have hp := take_any hS (by rw [HL.out]; omega) 9223372036854775807
          rw [takeV_late x W hle, takeW_late x W hle, hq] at hp
          have HL2 : Hid (W.length = k - (j + 1)) := hide (by have := HL.out; simp only [List.length_cons] at this; omega)
          obtain ⟨hG2, hA2⟩ := hG.step
          rw [hq] at hA2
          have hax : x.at_ = z q := by rw [hxa, hq]; rfl
          have HA : Hid (last = -1 ∨ (0 ≤ last ∧ last < k ∧ (z last.toNat < z q ∨ (z last.toNat = z q ∧ last < q)))) := hide (by
            rcases hA with e | ⟨e1, e2, e3⟩
            · exact .inl e
            · have := e3 x (by simp)
              rw [hax, hq] at this
              exact .inr ⟨e1, e2, this⟩)
          have HR := hide hA2
          clear HL hq hx0 hx1 hxa hle hax hA hA2 hG
          go_wp2_with fail
          refine hp.mono ?_
          clear hp
          rintro e w2 ⟨rfl, hS2, o2⟩
          have b2 := Below.then_only (Nat.le_refl _) b1 o2 hF
          clear hS o2 b1
          obtain ⟨b, off, rfl, hcell⟩ := t1.at (i := q) (by omega)
          have hcq : w2.cell? ⟨b, off + q, none⟩ = some (.int .i64 (z q)) := by
            rw [HZ.out]
            exact (b2.cell (p := ⟨b, off + q, none⟩) (lt_of_cell hcell)).trans hcell
          clear hcell
          have hq0 : decide ((q : Int) < 0) = false := by simp
          have hq1 : decide ((k : Int) ≤ q) = false := by simp; omega
          have hq2 : decide (k ≤ q) = false := by simp; omega
          rcases HA.out with e | ⟨e1, e2, e3⟩
          · subst e
            clear HA
            go_wp2_with fail
            go_quiet (fail)
            go_wp2_with fail
            go_roundw
            case rel => exact ⟨j + 1, q, W, hlt, by go_num, rfl, b2.trans (((Like.mk rfl rfl rfl rfl : Like (w2.drewN nq) w2).only (fun _ => False)).below b2.size (fun _ q => q.elim)), hG2, HL2.out, HR.out, hS2.kept ((Like.mk rfl rfl rfl rfl : Like (w2.drewN nq) w2).only (fun _ => False)) (fun _ _ q => q)⟩
            case measure => simp [intOf]; omega
          · obtain ⟨m, rfl⟩ : ∃ m : Nat, last = m := ⟨last.toNat, by omega⟩
            have hmk : m < k := by omega
            clear e1 e2 HA
            obtain ⟨b', off', hbe, hcell⟩ := t1.at (i := m) hmk
            cases hbe
            have hcm : w2.cell? ⟨b, off + m, none⟩ = some (.int .i64 (z m)) := by
              rw [HZ.out]
              exact (b2.cell (p := ⟨b, off + m, none⟩) (lt_of_cell hcell)).trans hcell
            clear hcell
            have hm2 : (m : Int) < k := by omega
            have e4 : z m < z q ∨ (z m = z q ∧ (m : Int) < q) := e3
            clear e3
            rcases e4 with e5 | ⟨e5, e6⟩
            · have d1 : decide (z q < z m) = false := by simp; omega
              have d2 : (z q == z m) = false := by simp; omega
              clear e5
              go_wp2_with fail
              go_quiet (fail)
              go_wp2_with fail
              go_roundw
              case rel => exact ⟨j + 1, q, W, hlt, by go_num, rfl, b2.trans (((Like.mk rfl rfl rfl rfl : Like (w2.drewN nq) w2).only (fun _ => False)).below b2.size (fun _ q => q.elim)), hG2, HL2.out, HR.out, hS2.kept ((Like.mk rfl rfl rfl rfl : Like (w2.drewN nq) w2).only (fun _ => False)) (fun _ _ q => q)⟩
              case measure => simp [intOf]; omega
            · have d1 : decide (z q < z q) = false := by simp
              have d2 : (z q == z q) = true := by simp
              have d3 : decide (q ≤ m) = false := by simp; omega
              rw [e5] at hcm
              clear e5 e6
              go_wp2_with fail
              go_quiet (fail)
              go_wp2_with fail
              go_roundw
              case rel => exact ⟨j + 1, q, W, hlt, by go_num, rfl, b2.trans (((Like.mk rfl rfl rfl rfl : Like (w2.drewN nq) w2).only (fun _ => False)).below b2.size (fun _ q => q.elim)), hG2, HL2.out, HR.out, hS2.kept ((Like.mk rfl rfl rfl rfl : Like (w2.drewN nq) w2).only (fun _ => False)) (fun _ _ q => q)⟩
              case measure => simp [intOf]; omega
        · obtain rfl : j = k := by omega
          have hnil : W = [] := List.eq_nil_of_length_eq_zero (by rw [HL.out]; omega)
          subst hnil
          clear hlt hj hA hG HL
          go_wp2_with fail
          refine (alive_any _).mono ?_
          rintro e w3 ⟨rfl, hb⟩
          have hS3 := hS.kept (Below.only hb) (fun b q => Nat.not_le.2 (hS.flt b q))
          have b3 := b1.trans (hb.mono b1.size)
          clear hS hb b1
          go_wp2_with fail
          refine (len_any hS3).mono ?_
          rintro e w4 ⟨rfl, rfl⟩
          simp only [List.length_nil]
          go_wp2_with fail
          go_ret
          exact ⟨rfl, b3⟩

set_option maxRecDepth 100000 in
/-- The statement's walk. -/
theorem sorts_walk (a1 : Option Addr) (len1 cap1 : Nat) (z1 : List Int) {w : World} (t1 : IsRow .i64 w a1 len1 cap1 z1) :
    Calls Try.prog 3 #[.slice a1 len1 cap1] w fun e w' => e = .returned (.bool true) ∧ Below w.heap.size w w' := by
  by_cases h3 : 100 < (len1 : Int)
  · go_enter Try.func3, Try.ntmps3
    go_wp2_with fail
    refine (alive_any _).mono ?_
    rintro e w3 ⟨rfl, hb⟩
    go_wp2_with fail
    go_ret
    exact ⟨rfl, hb⟩
  exact sorts_main a1 len1 cap1 z1 w t1 (by omega)

end HI
end Go.Proofs.Ytmneilbfpomobaa
