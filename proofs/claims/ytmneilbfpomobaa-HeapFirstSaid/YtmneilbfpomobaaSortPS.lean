/- slices.SortFunc at a heap's items (int), by the shelf's contract. -/
import Derived.Test.YtmneilbfpomobaaIterS
import Derived.Test.YtmneilbfpomobaaSortQ
import Derived.Shelf.SlSortCmp.NoneTotal
import Derived.Ground.SlsfProg
import Derived.Lib.SortBridge
namespace Go.Proofs
open Go.Shelf
def Try.sortLS_ren : Go.Shelf.Ren := ⟨fun | 6 => 36 | 15 => 45 | 14 => 44 | 28 => 57 | 29 => 58 | 20 => 49 | 21 => 50 | 22 => 51 | 23 => 52 | 24 => 53 | 25 => 54 | 26 => 55 | 27 => 56 | 46 => 67 | 47 => 68 | 48 => 69 | 49 => 70 | 50 => 71 | 57 => 75 | n => n, fun | 22 => 58 | 24 => 62 | 25 => 69 | 3 => 3 | 39 => 85 | 0 => 0 | 53 => 96 | 55 => 98 | 4 => 4 | 46 => 90 | 45 => 89 | 50 => 27 | 5 => 5 | 9 => 9 | 66 => 104 | 70 => 108 | 76 => 112 | 77 => 113 | n => n, fun | n => n⟩
theorem Try.sortLS : Go.Proofs.SlLaysF.n6 Try.prog Try.sortLS_ren := {
  mixed := by kernel_rfl
  f6 := ⟨Try.f36.name, by decide, Try.func36.trans (congrArg some (by kernel_rfl))⟩
  f14 := ⟨Try.f44.name, by decide, Try.func44.trans (congrArg some (by kernel_rfl))⟩
  f15 := Try.func45.trans (congrArg some (by kernel_rfl))
  f20 := ⟨Try.f49.name, by decide, Try.func49.trans (congrArg some (by kernel_rfl))⟩
  f21 := ⟨Try.f50.name, by decide, Try.func50.trans (congrArg some (by kernel_rfl))⟩
  f22 := ⟨Try.f51.name, by decide, Try.func51.trans (congrArg some (by kernel_rfl))⟩
  f23 := ⟨Try.f52.name, by decide, Try.func52.trans (congrArg some (by kernel_rfl))⟩
  f24 := ⟨Try.f53.name, by decide, Try.func53.trans (congrArg some (by kernel_rfl))⟩
  f25 := ⟨Try.f54.name, by decide, Try.func54.trans (congrArg some (by kernel_rfl))⟩
  f26 := ⟨Try.f55.name, by decide, Try.func55.trans (congrArg some (by kernel_rfl))⟩
  f27 := ⟨Try.f56.name, by decide, Try.func56.trans (congrArg some (by kernel_rfl))⟩
  f28 := Try.func57.trans (congrArg some (by kernel_rfl))
  f29 := Try.func58.trans (congrArg some (by kernel_rfl))
  f46 := ⟨Try.f67.name, by decide, Try.func67.trans (congrArg some (by kernel_rfl))⟩
  f47 := Try.func68.trans (congrArg some (by kernel_rfl))
  f48 := Try.func69.trans (congrArg some (by kernel_rfl))
  f49 := ⟨Try.f70.name, by decide, Try.func70.trans (congrArg some (by kernel_rfl))⟩
  f50 := ⟨Try.f71.name, by decide, Try.func71.trans (congrArg some (by kernel_rfl))⟩
  f57 := ⟨Try.f75.name, by decide, Try.func75.trans (congrArg some (by kernel_rfl))⟩
  t0 := Try.underlying0
  a0 := Try.isAgg0
  z0 := Try.sizeOf0
  v0 := Try.zeroValue0
  t3 := Try.underlying3
  a3 := Try.isAgg3
  z3 := Try.sizeOf3
  v3 := Try.zeroValue3
  t4 := Try.underlying4
  a4 := Try.isAgg4
  z4 := Try.sizeOf4
  v4 := Try.zeroValue4
  t5 := Try.underlying5
  a5 := Try.isAgg5
  z5 := Try.sizeOf5
  v5 := Try.zeroValue5
  t9 := Try.underlying9
  a9 := Try.isAgg9
  z9 := Try.sizeOf9
  v9 := Try.zeroValue9
  t22 := Try.underlying58
  a22 := Try.isAgg58
  z22 := Try.sizeOf58
  v22 := Try.zeroValue58
  a24 := Try.isAgg62
  z24 := Try.sizeOf62
  t25 := Try.underlying69
  a25 := Try.isAgg69
  z25 := Try.sizeOf69
  v25 := Try.zeroValue69
  t39 := Try.underlying85
  a39 := Try.isAgg85
  z39 := Try.sizeOf85
  v39 := Try.zeroValue85
  t45 := Try.underlying89
  a45 := Try.isAgg89
  z45 := Try.sizeOf89
  v45 := Try.zeroValue89
  t46 := Try.underlying90
  a46 := Try.isAgg90
  z46 := Try.sizeOf90
  v46 := Try.zeroValue90
  t50 := Try.underlying27
  a50 := Try.isAgg27
  z50 := Try.sizeOf27
  v50 := Try.zeroValue27
  t53 := Try.underlying96
  a53 := Try.isAgg96
  z53 := Try.sizeOf96
  v53 := Try.zeroValue96
  t55 := Try.underlying98
  a55 := Try.isAgg98
  z55 := Try.sizeOf98
  v55 := Try.zeroValue98
  t66 := Try.underlying104
  a66 := Try.isAgg104
  z66 := Try.sizeOf104
  v66 := Try.zeroValue104
  t70 := Try.underlying108
  a70 := Try.isAgg108
  z70 := Try.sizeOf108
  v70 := Try.zeroValue108
  t76 := Try.underlying112
  a76 := Try.isAgg112
  z76 := Try.sizeOf112
  v76 := Try.zeroValue112
  t77 := Try.underlying113
  a77 := Try.isAgg113
  z77 := Try.sizeOf113
  v77 := Try.zeroValue113 }
end Go.Proofs
namespace Go.Proofs.Ytmneilbfpomobaa
open Go.RowKit Go.Shelf Go.Sort
namespace HS

set_option maxRecDepth 100000 in
theorem cmp_exact {β : Type} (x y : It β) (w : World) (c0 : w.cell? ⟨x.b, 0, none⟩ = some (.int .i64 x.at_)) (c1 : w.cell? ⟨x.b, 1, none⟩ = some (.int .i64 x.id)) (d0 : w.cell? ⟨y.b, 0, none⟩ = some (.int .i64 y.at_)) (d1 : w.cell? ⟨y.b, 1, none⟩ = some (.int .i64 y.id)) :
    Calls Try.prog 29 #[.pointer (some ⟨x.b, 0, none⟩), .pointer (some ⟨y.b, 0, none⟩)] w fun e w' => e = .returned (.int .i64 (cmp x y)) ∧ ∃ q os, w' = Sort.grow (w.drewN q) os := by
  rw [← cmp_sgn]
  go_enter Try.func29, Try.ntmps29
  go_wp2_with fail
  refine wp_region_still_tail 18 (by kernel_rfl) (by kernel_rfl) ?_
  simp only [List.take_succ_cons, List.take_zero, List.drop_succ_cons, List.drop_zero]
  iterate 8 still_step
  still_call ((compare_walk x.at_ y.at_ _).mono fun e w' h => ⟨h.1, h.2.symm⟩)
  iterate 8 still_step
  still_call ((compare_walk x.id y.id _).mono fun e w' h => ⟨h.1, h.2.symm⟩)
  refine wpStill_nil ?_
  change wpList _ _ _ _ _ w.drew
  go_wp2_with fail
  refine (or_walk w.heap.size (sgn x.at_ y.at_) (sgn x.id y.id) _ (World.cell?_alloc_new w _ _ 0) (World.cell?_alloc_new w _ _ 1)).mono ?_
  rintro e w' ⟨rfl, rfl⟩
  go_wp2_with fail
  all_goals
    go_ret
    first
      | exact ⟨rfl, 1, #[.cells #[.int .i64 (sgn x.at_ y.at_), .int .i64 (sgn x.id y.id)] 3], by rw [← Sort.alloc_eq_grow]; rfl⟩
      | exact ⟨rfl, 1, #[.cells #[.int .i64 0, .int .i64 (sgn x.id y.id)] 3], by rw [← Sort.alloc_eq_grow]; rfl⟩

/-- the order of the places -/
def cfA {β : Type} {n : Nat} (a : Nat → It β) (i j : Fin n) : Int := cmp (a i) (a j)
theorem ltA {β : Type} {n : Nat} (a : Nat → It β) (i j : Fin n) : ltOf (cfA a) i j = true ↔ (a i).lt (a j) := by
  unfold ltOf cfA
  rw [decide_eq_true_iff]
  exact cmp_neg
theorem swoA {β : Type} {n : Nat} (a : Nat → It β) : SWO (ltOf (cfA (n := n) a)) where
  irrefl x := by
    rw [← Bool.not_eq_true, ltA]
    unfold It.lt; omega
  trans x y z h1 h2 := by
    rw [ltA] at *
    unfold It.lt at *; omega
  ntrans x y z h1 h2 := by
    rw [← Bool.not_eq_true, ltA] at *
    unfold It.lt at *; omega
theorem totA {β : Type} {n : Nat} {a : Nat → It β} {R : List (It β)} (h : Items a n R) (i j : Fin n) (h1 : ltOf (cfA a) i j = false) (h2 : ltOf (cfA a) j i = false) : i = j := by
  rw [← Bool.not_eq_true, ltA] at h1 h2
  have hi : a i ∈ R := h.mem.2 ⟨i, i.2, rfl⟩
  have hj : a j ∈ R := h.mem.2 ⟨j, j.2, rfl⟩
  apply Fin.ext
  exact h.inj i.2 j.2 (by unfold It.lt at *; omega)

theorem leA {β : Type} {n : Nat} (a : Nat → It β) (i j : Fin n) : (!ltOf (cfA a) j i) = true ↔ (a i).le (a j) := by
  rw [Bool.not_eq_true', ← Bool.not_eq_true, ltA]
  exact It.not_lt

section
variable {β : Type} {n : Nat} {a : Nat → It β} {R : List (It β)} {w : World} {blk cap : Nat}

/-- below the row's block a world of the sort's is as the caller's -/
theorem cell_sortWorld {α : Type} [Inhabited α] (enc : α → Value) (w : World) (blk off m : Nat) (d : Array α) (os : Array Obj) {p : Addr} (hb : p.block ≠ blk) (hp : p.block < w.heap.size) : (sortWorld enc w blk off m d os).cell? p = w.cell? p := by
  unfold sortWorld
  rw [cell?_grow _ _ _ (by simpa [putRow, mapBlock, ahead] using hp), cell?_putRow_other _ _ _ _ _ _ (.inl hb)]
  rfl

theorem only_sortWorld {α : Type} [Inhabited α] (enc : α → Value) (w : World) (blk off m : Nat) (d : Array α) (os : Array Obj) : Only (fun b => b = blk) w (sortWorld enc w blk off m d os) := by
  refine ⟨rfl, rfl, rfl, ?_, fun b hb hne => ?_⟩
  · simp [sortWorld, grow, putRow, mapBlock]
  · unfold sortWorld
    rw [heap_grow_old _ _ (by simpa [putRow, mapBlock, ahead] using hb)]
    simp [putRow, mapBlock, Array.getElem?_modify, Ne.symm hne]

theorem enters_sort : ∀ args w, (callFunc 29 args).run Try.prog w = .ok (.enter 29 args) w := enters_of Try.func29 (by kernel_rfl) rfl

/-- slices.SortFunc of the collected pointers: they stand in the order of what waits. -/
theorem sort_some {k : Nat} {a : Nat → It β} {R : List (It β)} (its : Items a (k + 1) R) (hs : R.Pairwise It.le) (hk : k < 1000000)
    (c0 : ∀ i, i < k + 1 → w.cell? ⟨(a i).b, 0, none⟩ = some (.int .i64 (a i).at_)) (c1 : ∀ i, i < k + 1 → w.cell? ⟨(a i).b, 1, none⟩ = some (.int .i64 (a i).id)) (hne : ∀ i, i < k + 1 → (a i).b ≠ blk)
    (hrow : ∀ j, j < k + 1 → w.cell? ⟨blk, j, none⟩ = some (ptrB (a j).b) ∧ w.frozen? ⟨blk, j, none⟩ = false) :
    Calls Try.prog 36 #[.slice (some ⟨blk, 0, none⟩) (k + 1) cap, .func (.func 29) #[] #[]] w fun e w' =>
      e = .returned (.tuple #[]) ∧ Only (fun b => b = blk) w w' ∧ ∀ j (hj : j < R.length), w'.cell? ⟨blk, j, none⟩ = some (ptrB R[j].b) := by
  haveI : Inhabited (Fin (k + 1)) := ⟨⟨0, by omega⟩⟩
  have hblk : blk < w.heap.size := lt_of_cell (hrow 0 (by omega)).1
  have hdj : ∀ j (hj : j < k + 1), (List.finRange (k + 1)).toArray[j]! = (⟨j, hj⟩ : Fin (k + 1)) := fun j hj => by
    rw [getElem!_pos _ j (by simpa using hj)]
    simp
  have hds : (List.finRange (k + 1)).toArray.size = k + 1 := by simp
  have hH : Holds (fun i : Fin (k + 1) => ptrB (a i).b) w blk 0 (List.finRange (k + 1)).toArray := fun j hj => by
    rw [hds] at hj
    rw [hdj j hj, Nat.zero_add]
    exact hrow j hj
  have hcmp : CmpLays1 Try.prog 29 #[] (fun i : Fin (k + 1) => ptrB (a i).b) (cfA a) blk 0 (List.finRange (k + 1)).toArray.size w := fun m os dk hsz x y =>
    have e : ∀ (i : Fin (k + 1)) o v, w.cell? ⟨(a i).b, o, none⟩ = some v → (sortWorld (fun i : Fin (k + 1) => ptrB (a i).b) w blk 0 m dk os).cell? ⟨(a i).b, o, none⟩ = some v := fun i o v h =>
      (cell_sortWorld _ w blk 0 m dk os (p := ⟨(a i).b, o, none⟩) (hne i i.2) (lt_of_cell h)).trans h
    cmp_exact (a x) (a y) _ (e x 0 _ (c0 x x.2)) (e x 1 _ (c1 x x.2)) (e y 0 _ (c0 y y.2)) (e y 1 _ (c1 y y.2))
  have hS := Any.slices_SortFunc_total Try.sortLS (fun i : Fin (k + 1) => ptrB (a i).b) (fun _ => rfl) (cfA a) (swoA a) 29 #[] blk 0 cap (List.finRange (k + 1)).toArray w enters_sort hcmp hH hblk (by rw [hds]; omega) (fun x y => totA its x y)
  rw [hds] at hS
  refine hS.mono ?_
  rintro e w' ⟨rfl, m, os, rfl⟩
  refine ⟨rfl, only_sortWorld _ _ _ _ _ _ _, fun j hj => ?_⟩
  obtain ⟨M, hM⟩ : ∃ M, M = ((List.finRange (k + 1)).toArray.toList.mergeSort fun x y => !ltOf (cfA a) y x) := ⟨_, rfl⟩
  have hR : M.map (fun i => a i.val) = R := by rw [hM]; exact sorted_places its hs _ (fun i j => leA a i j)
  have hlen : M.length = k + 1 := by rw [hM]; simp
  rw [← hM]
  have hjk : j < k + 1 := by rw [its.len] at hj; exact hj
  unfold sortWorld
  rw [cell?_grow _ _ _ (by simpa [putRow, mapBlock, ahead] using hblk)]
  have hp := cell?_putRow (fun i : Fin (k + 1) => ptrB (a i).b) (Sort.ahead w m) blk 0 (List.finRange (k + 1)).toArray M.toArray (holds_ahead _ _ _ _ _ _ hH) (by simp [hlen]) j (by simp [hlen]; exact hjk)
  rw [Nat.zero_add] at hp
  rw [hp, getElem!_pos _ j (by simp [hlen]; exact hjk)]
  subst hR
  simp

theorem sort_none (p : Option Addr) (cap : Nat) (fv : Value) (w : World) : Calls Try.prog 36 #[.slice p 0 cap, fv] w fun e w' => e = .returned (.tuple #[]) ∧ w' = w :=
  AnyF.slices_SortFunc_none (P := Try.prog) (ρ := Try.sortLS_ren) { Try.sortLS with } p cap fv w
end

end HS
end Go.Proofs.Ytmneilbfpomobaa
