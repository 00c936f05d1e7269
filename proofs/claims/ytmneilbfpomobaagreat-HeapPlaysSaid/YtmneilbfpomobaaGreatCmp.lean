/- The walks of package heap at int, first part: cmp.Compare, cmp.Or and compare. -/
import Derived.Test.YtmneilbfpomobaaGreatRows
import Derived.Test.YtmneilbfpomobaaGreatMem
import Derived.Test.YtmneilbfpomobaaGreatHeapS
import Derived.BigRegion
import Derived.RegionTactic
import Derived.BigQuiet
import Derived.Deep.QuietTactic
import Derived.StillTailTactics
import Derived.Outline
namespace Go.Proofs.YtmneilbfpomobaaGreat
open Go.RowKit

/-- cmp.Compare of two whole numbers -/
def sgn (x y : Int) : Int := if x < y then -1 else if y < x then 1 else 0

theorem isNaN_walk (x : Int) (w : World) : Calls Tryz.prog 123 #[.int .i64 x] w fun e w' => e = .returned (.bool false) ∧ w = w' := by
  have hb : (x != x) = false := by simp
  go_enter Tryz.func123, Tryz.ntmps123
  go_wp2_with fail
  go_ret
  exact ⟨rfl, rfl⟩

theorem compare_walk (x y : Int) (w : World) : Calls Tryz.prog 90 #[.int .i64 x, .int .i64 y] w fun e w' => e = .returned (.int .i64 (sgn x y)) ∧ w = w' := by
  by_cases h1 : x < y
  · rw [show sgn x y = -1 by simp [sgn, h1]]
    go_enter Tryz.func90, Tryz.ntmps90
    go_wp2_with fail
    refine (isNaN_walk x _).mono ?_
    rintro e w' ⟨rfl, rfl⟩
    go_wp2_with fail
    refine (isNaN_walk y _).mono ?_
    rintro e w' ⟨rfl, rfl⟩
    go_wp2_with fail
    go_ret
    exact ⟨rfl, rfl⟩
  · by_cases h2 : y < x
    · rw [show sgn x y = 1 by simp [sgn, h1, h2]]
      go_enter Tryz.func90, Tryz.ntmps90
      go_wp2_with fail
      refine (isNaN_walk x _).mono ?_
      rintro e w' ⟨rfl, rfl⟩
      go_wp2_with fail
      refine (isNaN_walk y _).mono ?_
      rintro e w' ⟨rfl, rfl⟩
      go_wp2_with fail
      go_ret
      exact ⟨rfl, rfl⟩
    · rw [show sgn x y = 0 by simp [sgn, h1, h2]]
      go_enter Tryz.func90, Tryz.ntmps90
      go_wp2_with fail
      refine (isNaN_walk x _).mono ?_
      rintro e w' ⟨rfl, rfl⟩
      go_wp2_with fail
      refine (isNaN_walk y _).mono ?_
      rintro e w' ⟨rfl, rfl⟩
      go_wp2_with fail
      go_ret
      exact ⟨rfl, rfl⟩

/-- cmp.Or of two numbers -/
theorem or_walk (g : Nat) (x y : Int) (w : World) (c0 : w.cell? ⟨g, 0, none⟩ = some (.int .i64 x)) (c1 : w.cell? ⟨g, 1, none⟩ = some (.int .i64 y)) :
    Calls Tryz.prog 89 #[.slice (some ⟨g, 0, none⟩) 2 2] w fun e w' => e = .returned (.int .i64 (if x = 0 then y else x)) ∧ w = w' := by
  by_cases h1 : x = 0
  · rw [if_pos h1]
    have hx : (x != 0) = false := by simp [h1]
    have HX := hide h1
    clear h1
    by_cases h2 : y = 0
    · have hy : (y != 0) = false := by simp [h2]
      have HY := hide h2
      clear h2
      go_enter Tryz.func89, Tryz.ntmps89
      go_wp2_with fail
      refine wp_loop_rounds 3 ?_
      rw [rounds_succ]
      go_wp2_with fail
      rw [rounds_succ]
      go_wp2_with fail
      rw [rounds_succ]
      go_wp2_with fail
      go_ret
      exact ⟨by rw [HY.out]; rfl, rfl⟩
    · have hy : (y != 0) = true := by simp [h2]
      clear h2
      go_enter Tryz.func89, Tryz.ntmps89
      go_wp2_with fail
      refine wp_loop_rounds 2 ?_
      rw [rounds_succ]
      go_wp2_with fail
      rw [rounds_succ]
      go_wp2_with fail
      go_ret
      exact ⟨rfl, rfl⟩
  · rw [if_neg h1]
    have hx : (x != 0) = true := by simp [h1]
    clear h1
    go_enter Tryz.func89, Tryz.ntmps89
    go_wp2_with fail
    refine wp_loop_rounds 1 ?_
    rw [rounds_succ]
    go_wp2_with fail
    go_ret
    exact ⟨rfl, rfl⟩

theorem cmp_sgn {β : Type} (x y : It β) : (if sgn x.at_ y.at_ = 0 then sgn x.id y.id else sgn x.at_ y.at_) = cmp x y := by
  unfold sgn cmp
  split <;> (try split) <;> (try split) <;> (try split) <;> (try split) <;> omega

set_option maxRecDepth 100000 in
theorem cmp_walk {β : Type} (x y : It β) (w : World) (c0 : w.cell? ⟨x.b, 0, none⟩ = some (.int .i64 x.at_)) (c1 : w.cell? ⟨x.b, 1, none⟩ = some (.int .i64 x.id)) (d0 : w.cell? ⟨y.b, 0, none⟩ = some (.int .i64 y.at_)) (d1 : w.cell? ⟨y.b, 1, none⟩ = some (.int .i64 y.id)) :
    Calls Tryz.prog 24 #[.pointer (some ⟨x.b, 0, none⟩), .pointer (some ⟨y.b, 0, none⟩)] w fun e w' => e = .returned (.int .i64 (cmp x y)) ∧ Only (fun _ => False) w w' := by
  rw [← cmp_sgn]
  go_enter Tryz.func24, Tryz.ntmps24
  go_wp2_with fail
  refine wp_region_still_tail 18 (by kernel_rfl) (by kernel_rfl) ?_
  simp only [List.take_succ_cons, List.take_zero, List.drop_succ_cons, List.drop_zero]
  iterate 8 still_step
  still_call ((compare_walk x.at_ y.at_ _).mono fun e w' h => ⟨h.1, h.2.symm⟩)
  iterate 8 still_step
  still_call ((compare_walk x.id y.id _).mono fun e w' h => ⟨h.1, h.2.symm⟩)
  refine wpStill_nil ?_
  change wpList _ _ _ _ _ w.drew
  go_wp2_with fail
  refine (or_walk w.heap.size (sgn x.at_ y.at_) (sgn x.id y.id) _ (World.cell?_alloc_new w _ _ 0) (World.cell?_alloc_new w _ _ 1)).mono ?_
  rintro e w' ⟨rfl, rfl⟩
  go_wp2_with fail
  all_goals
    go_ret
    exact ⟨rfl, (Only.alloc _ w _).trans (Only.drew _ _)⟩

end Go.Proofs.YtmneilbfpomobaaGreat
