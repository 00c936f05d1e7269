/- slices.SortFunc at a heap's items (int), by the shelf's contract. -/
import Derived.Test.YtmneilbfpomobaaGreatIter
import Derived.Test.YtmneilbfpomobaaGreatSortQ
import Derived.Shelf.SlSortCmp.NoneTotal
import Derived.Shelf.Lay
import Derived.Ground.SlsfProg
import Derived.Lib.SortBridge
namespace Go.Proofs
open Go.Shelf
shelf_lay_g SlLaysF.n6 Slsf 6 at Tryz 87 as Tryz.sortLI
end Go.Proofs
namespace Go.Proofs.YtmneilbfpomobaaGreat
open Go.RowKit Go.Shelf Go.Sort
namespace HI

set_option maxRecDepth 100000 in
theorem cmp_exact {β : Type} (x y : It β) (w : World) (c0 : w.cell? ⟨x.b, 0, none⟩ = some (.int .i64 x.at_)) (c1 : w.cell? ⟨x.b, 1, none⟩ = some (.int .i64 x.id)) (d0 : w.cell? ⟨y.b, 0, none⟩ = some (.int .i64 y.at_)) (d1 : w.cell? ⟨y.b, 1, none⟩ = some (.int .i64 y.id)) :
    Calls Tryz.prog 24 #[.pointer (some ⟨x.b, 0, none⟩), .pointer (some ⟨y.b, 0, none⟩)] w fun e w' => e = .returned (.int .i64 (cmp x y)) ∧ ∃ q os, w' = Sort.grow (w.drewN q) os := by
  rw [← cmp_sgn]
  go_enter Tryz.func24, Tryz.ntmps24
  go_wp2_with fail
  refine wp_region_still_tail 18 (by kernel_rfl) (by kernel_rfl) ?_
  simp only [List.take_succ_cons, List.take_zero, List.drop_succ_cons, List.drop_zero]
  iterate 8 still_step
  still_call ((compare_walk x.at_ y.at_ _).mono fun e w' h => ⟨h.1, h.2.symm⟩)
  iterate 8 still_step
  still_call ((compare_walk x.id y.id _).mono fun e w' h => ⟨h.1, h.2.symm⟩)
  refine wpStill_nil ?_
  change wpList _ _ _ _ _ w.drew
  go_wp2_with fail
  refine (or_walk w.heap.size (sgn x.at_ y.at_) (sgn x.id y.id) _ (World.cell?_alloc_new w _ _ 0) (World.cell?_alloc_new w _ _ 1)).mono ?_
  rintro e w' ⟨rfl, rfl⟩
  go_wp2_with fail
  all_goals
    go_ret
    first
      | exact ⟨rfl, 1, #[.cells #[.int .i64 (sgn x.at_ y.at_), .int .i64 (sgn x.id y.id)] 3], by rw [← Sort.alloc_eq_grow]; rfl⟩
      | exact ⟨rfl, 1, #[.cells #[.int .i64 0, .int .i64 (sgn x.id y.id)] 3], by rw [← Sort.alloc_eq_grow]; rfl⟩

/-- the order of the places -/
def cfA {β : Type} {n : Nat} (a : Nat → It β) (i j : Fin n) : Int := cmp (a i) (a j)
theorem ltA {β : Type} {n : Nat} (a : Nat → It β) (i j : Fin n) : ltOf (cfA a) i j = true ↔ (a i).lt (a j) := by
  unfold ltOf cfA
  rw [decide_eq_true_iff]
  exact cmp_neg
theorem swoA {β : Type} {n : Nat} (a : Nat → It β) : SWO (ltOf (cfA (n := n) a)) where
  irrefl x := by
    rw [← Bool.not_eq_true, ltA]
    unfold It.lt; omega
  trans x y z h1 h2 := by
    rw [ltA] at *
    unfold It.lt at *; omega
  ntrans x y z h1 h2 := by
    rw [← Bool.not_eq_true, ltA] at *
    unfold It.lt at *; omega
theorem totA {β : Type} {n : Nat} {a : Nat → It β} {R : List (It β)} (h : Items a n R) (i j : Fin n) (h1 : ltOf (cfA a) i j = false) (h2 : ltOf (cfA a) j i = false) : i = j := by
  rw [← Bool.not_eq_true, ltA] at h1 h2
  have hi : a i ∈ R := h.mem.2 ⟨i, i.2, rfl⟩
  have hj : a j ∈ R := h.mem.2 ⟨j, j.2, rfl⟩
  apply Fin.ext
  exact h.inj i.2 j.2 (by unfold It.lt at *; omega)

theorem leA {β : Type} {n : Nat} (a : Nat → It β) (i j : Fin n) : (!ltOf (cfA a) j i) = true ↔ (a i).le (a j) := by
  rw [Bool.not_eq_true', ← Bool.not_eq_true, ltA]
  exact It.not_lt

section
variable {β : Type} {n : Nat} {a : Nat → It β} {R : List (It β)} {w : World} {blk cap : Nat}

/-- below the row's block a world of the sort's is as the caller's -/
theorem cell_sortWorld {α : Type} [Inhabited α] (enc : α → Value) (w : World) (blk off m : Nat) (d : Array α) (os : Array Obj) {p : Addr} (hb : p.block ≠ blk) (hp : p.block < w.heap.size) : (sortWorld enc w blk off m d os).cell? p = w.cell? p := by
  unfold sortWorld
  rw [cell?_grow _ _ _ (by simpa [putRow, mapBlock, ahead] using hp), cell?_putRow_other _ _ _ _ _ _ (.inl hb)]
  rfl

theorem only_sortWorld {α : Type} [Inhabited α] (enc : α → Value) (w : World) (blk off m : Nat) (d : Array α) (os : Array Obj) : Only (fun b => b = blk) w (sortWorld enc w blk off m d os) := by
  refine ⟨rfl, rfl, rfl, ?_, fun b hb hne => ?_⟩
  · simp [sortWorld, grow, putRow, mapBlock]
  · unfold sortWorld
    rw [heap_grow_old _ _ (by simpa [putRow, mapBlock, ahead] using hb)]
    simp [putRow, mapBlock, Array.getElem?_modify, Ne.symm hne]

theorem enters_sort : ∀ args w, (callFunc 24 args).run Tryz.prog w = .ok (.enter 24 args) w := enters_of Tryz.func24 (by kernel_rfl) rfl

/-- slices.SortFunc of the collected pointers: they stand in the order of what waits. -/
theorem sort_some {k : Nat} {a : Nat → It β} {R : List (It β)} (its : Items a (k + 1) R) (hs : R.Pairwise It.le) (hk : k < 1000000)
    (c0 : ∀ i, i < k + 1 → w.cell? ⟨(a i).b, 0, none⟩ = some (.int .i64 (a i).at_)) (c1 : ∀ i, i < k + 1 → w.cell? ⟨(a i).b, 1, none⟩ = some (.int .i64 (a i).id)) (hne : ∀ i, i < k + 1 → (a i).b ≠ blk)
    (hrow : ∀ j, j < k + 1 → w.cell? ⟨blk, j, none⟩ = some (ptrB (a j).b) ∧ w.frozen? ⟨blk, j, none⟩ = false) :
    Calls Tryz.prog 87 #[.slice (some ⟨blk, 0, none⟩) (k + 1) cap, .func (.func 24) #[] #[]] w fun e w' =>
      e = .returned (.tuple #[]) ∧ Only (fun b => b = blk) w w' ∧ ∀ j (hj : j < R.length), w'.cell? ⟨blk, j, none⟩ = some (ptrB R[j].b) := by
  haveI : Inhabited (Fin (k + 1)) := ⟨⟨0, by omega⟩⟩
  have hblk : blk < w.heap.size := lt_of_cell (hrow 0 (by omega)).1
  have hdj : ∀ j (hj : j < k + 1), (List.finRange (k + 1)).toArray[j]! = (⟨j, hj⟩ : Fin (k + 1)) := fun j hj => by
    rw [getElem!_pos _ j (by simpa using hj)]
    simp
  have hds : (List.finRange (k + 1)).toArray.size = k + 1 := by simp
  have hH : Holds (fun i : Fin (k + 1) => ptrB (a i).b) w blk 0 (List.finRange (k + 1)).toArray := fun j hj => by
    rw [hds] at hj
    rw [hdj j hj, Nat.zero_add]
    exact hrow j hj
  have hcmp : CmpLays1 Tryz.prog 24 #[] (fun i : Fin (k + 1) => ptrB (a i).b) (cfA a) blk 0 (List.finRange (k + 1)).toArray.size w := fun m os dk hsz x y =>
    have e : ∀ (i : Fin (k + 1)) o v, w.cell? ⟨(a i).b, o, none⟩ = some v → (sortWorld (fun i : Fin (k + 1) => ptrB (a i).b) w blk 0 m dk os).cell? ⟨(a i).b, o, none⟩ = some v := fun i o v h =>
      (cell_sortWorld _ w blk 0 m dk os (p := ⟨(a i).b, o, none⟩) (hne i i.2) (lt_of_cell h)).trans h
    cmp_exact (a x) (a y) _ (e x 0 _ (c0 x x.2)) (e x 1 _ (c1 x x.2)) (e y 0 _ (c0 y y.2)) (e y 1 _ (c1 y y.2))
  have hS := Any.slices_SortFunc_total Tryz.sortLI (fun i : Fin (k + 1) => ptrB (a i).b) (fun _ => rfl) (cfA a) (swoA a) 24 #[] blk 0 cap (List.finRange (k + 1)).toArray w enters_sort hcmp hH hblk (by rw [hds]; omega) (fun x y => totA its x y)
  rw [hds] at hS
  refine hS.mono ?_
  rintro e w' ⟨rfl, m, os, rfl⟩
  refine ⟨rfl, only_sortWorld _ _ _ _ _ _ _, fun j hj => ?_⟩
  obtain ⟨M, hM⟩ : ∃ M, M = ((List.finRange (k + 1)).toArray.toList.mergeSort fun x y => !ltOf (cfA a) y x) := ⟨_, rfl⟩
  have hR : M.map (fun i => a i.val) = R := by rw [hM]; exact sorted_places its hs _ (fun i j => leA a i j)
  have hlen : M.length = k + 1 := by rw [hM]; simp
  rw [← hM]
  have hjk : j < k + 1 := by rw [its.len] at hj; exact hj
  unfold sortWorld
  rw [cell?_grow _ _ _ (by simpa [putRow, mapBlock, ahead] using hblk)]
  have hp := cell?_putRow (fun i : Fin (k + 1) => ptrB (a i).b) (Sort.ahead w m) blk 0 (List.finRange (k + 1)).toArray M.toArray (holds_ahead _ _ _ _ _ _ hH) (by simp [hlen]) j (by simp [hlen]; exact hjk)
  rw [Nat.zero_add] at hp
  rw [hp, getElem!_pos _ j (by simp [hlen]; exact hjk)]
  subst hR
  simp

theorem sort_none (p : Option Addr) (cap : Nat) (fv : Value) (w : World) : Calls Tryz.prog 87 #[.slice p 0 cap, fv] w fun e w' => e = .returned (.tuple #[]) ∧ w' = w :=
  AnyF.slices_SortFunc_none (P := Tryz.prog) (ρ := Tryz.sortLI_ren) { Tryz.sortLI with } p cap fv w
end

end HI
end Go.Proofs.YtmneilbfpomobaaGreat
