/- compare at string. Printed by heapstr.py. -/
import Derived.Test.YtmneilbfpomobaaCmp
namespace Go.Proofs.Ytmneilbfpomobaa
open Go.RowKit
namespace HS

set_option maxRecDepth 100000 in
theorem cmp_walk {β : Type} (x y : It β) (w : World) (c0 : w.cell? ⟨x.b, 0, none⟩ = some (.int .i64 x.at_)) (c1 : w.cell? ⟨x.b, 1, none⟩ = some (.int .i64 x.id)) (d0 : w.cell? ⟨y.b, 0, none⟩ = some (.int .i64 y.at_)) (d1 : w.cell? ⟨y.b, 1, none⟩ = some (.int .i64 y.id)) :
    Calls Try.prog 29 #[.pointer (some ⟨x.b, 0, none⟩), .pointer (some ⟨y.b, 0, none⟩)] w fun e w' => e = .returned (.int .i64 (cmp x y)) ∧ Only (fun _ => False) w w' := by
  rw [← cmp_sgn]
  go_enter Try.func29, Try.ntmps29
  go_wp2_with fail
  refine wp_region_still_tail 18 (by kernel_rfl) (by kernel_rfl) ?_
  simp only [List.take_succ_cons, List.take_zero, List.drop_succ_cons, List.drop_zero]
  iterate 8 still_step
  still_call ((compare_walk x.at_ y.at_ _).mono fun e w' h => ⟨h.1, h.2.symm⟩)
  iterate 8 still_step
  still_call ((compare_walk x.id y.id _).mono fun e w' h => ⟨h.1, h.2.symm⟩)
  refine wpStill_nil ?_
  change wpList _ _ _ _ _ w.drew
  go_wp2_with fail
  refine (or_walk w.heap.size (sgn x.at_ y.at_) (sgn x.id y.id) _ (World.cell?_alloc_new w _ _ 0) (World.cell?_alloc_new w _ _ 1)).mono ?_
  rintro e w' ⟨rfl, rfl⟩
  go_wp2_with fail
  all_goals
    go_ret
    exact ⟨rfl, (Only.alloc _ w _).trans (Only.drew _ _)⟩

end HS
end Go.Proofs.Ytmneilbfpomobaa
