/- slices.SortFunc at a heap's items (int), by the shelf's contract. -/
import Derived.Test.YtmneilbfpomobaaGreatIter
import Derived.Test.YtmneilbfpomobaaGreatSortQ
import Derived.Shelf.SlSortCmp.NoneTotal
import Derived.Ground.SlsfProg
import Derived.Lib.SortBridge
namespace Go.Proofs
open Go.Shelf
def Tryz.sortLI_ren : Go.Shelf.Ren := ⟨fun | 6 => 87 | 15 => 122 | 14 => 121 | 28 => 134 | 29 => 135 | 20 => 126 | 21 => 127 | 22 => 128 | 23 => 129 | 24 => 130 | 25 => 131 | 26 => 132 | 27 => 133 | 46 => 136 | 47 => 137 | 48 => 138 | 49 => 139 | 50 => 140 | 57 => 141 | n => n, fun | 22 => 30 | 24 => 70 | 25 => 78 | 3 => 3 | 39 => 186 | 0 => 0 | 53 => 197 | 55 => 143 | 4 => 4 | 46 => 191 | 45 => 190 | 50 => 55 | 5 => 5 | 9 => 9 | 66 => 200 | 70 => 204 | 76 => 206 | 77 => 207 | n => n, fun | n => n⟩
theorem Tryz.sortLI : Go.Proofs.SlLaysF.n6 Tryz.prog Tryz.sortLI_ren := {
  mixed := by kernel_rfl
  f6 := ⟨Tryz.f87.name, by decide, Tryz.func87.trans (congrArg some (by kernel_rfl))⟩
  f14 := ⟨Tryz.f121.name, by decide, Tryz.func121.trans (congrArg some (by kernel_rfl))⟩
  f15 := Tryz.func122.trans (congrArg some (by kernel_rfl))
  f20 := ⟨Tryz.f126.name, by decide, Tryz.func126.trans (congrArg some (by kernel_rfl))⟩
  f21 := ⟨Tryz.f127.name, by decide, Tryz.func127.trans (congrArg some (by kernel_rfl))⟩
  f22 := ⟨Tryz.f128.name, by decide, Tryz.func128.trans (congrArg some (by kernel_rfl))⟩
  f23 := ⟨Tryz.f129.name, by decide, Tryz.func129.trans (congrArg some (by kernel_rfl))⟩
  f24 := ⟨Tryz.f130.name, by decide, Tryz.func130.trans (congrArg some (by kernel_rfl))⟩
  f25 := ⟨Tryz.f131.name, by decide, Tryz.func131.trans (congrArg some (by kernel_rfl))⟩
  f26 := ⟨Tryz.f132.name, by decide, Tryz.func132.trans (congrArg some (by kernel_rfl))⟩
  f27 := ⟨Tryz.f133.name, by decide, Tryz.func133.trans (congrArg some (by kernel_rfl))⟩
  f28 := Tryz.func134.trans (congrArg some (by kernel_rfl))
  f29 := Tryz.func135.trans (congrArg some (by kernel_rfl))
  f46 := ⟨Tryz.f136.name, by decide, Tryz.func136.trans (congrArg some (by kernel_rfl))⟩
  f47 := Tryz.func137.trans (congrArg some (by kernel_rfl))
  f48 := Tryz.func138.trans (congrArg some (by kernel_rfl))
  f49 := ⟨Tryz.f139.name, by decide, Tryz.func139.trans (congrArg some (by kernel_rfl))⟩
  f50 := ⟨Tryz.f140.name, by decide, Tryz.func140.trans (congrArg some (by kernel_rfl))⟩
  f57 := ⟨Tryz.f141.name, by decide, Tryz.func141.trans (congrArg some (by kernel_rfl))⟩
  t0 := Tryz.underlying0
  a0 := Tryz.isAgg0
  z0 := Tryz.sizeOf0
  v0 := Tryz.zeroValue0
  t3 := Tryz.underlying3
  a3 := Tryz.isAgg3
  z3 := Tryz.sizeOf3
  v3 := Tryz.zeroValue3
  t4 := Tryz.underlying4
  a4 := Tryz.isAgg4
  z4 := Tryz.sizeOf4
  v4 := Tryz.zeroValue4
  t5 := Tryz.underlying5
  a5 := Tryz.isAgg5
  z5 := Tryz.sizeOf5
  v5 := Tryz.zeroValue5
  t9 := Tryz.underlying9
  a9 := Tryz.isAgg9
  z9 := Tryz.sizeOf9
  v9 := Tryz.zeroValue9
  t22 := Tryz.underlying30
  a22 := Tryz.isAgg30
  z22 := Tryz.sizeOf30
  v22 := Tryz.zeroValue30
  a24 := Tryz.isAgg70
  z24 := Tryz.sizeOf70
  t25 := Tryz.underlying78
  a25 := Tryz.isAgg78
  z25 := Tryz.sizeOf78
  v25 := Tryz.zeroValue78
  t39 := Tryz.underlying186
  a39 := Tryz.isAgg186
  z39 := Tryz.sizeOf186
  v39 := Tryz.zeroValue186
  t45 := Tryz.underlying190
  a45 := Tryz.isAgg190
  z45 := Tryz.sizeOf190
  v45 := Tryz.zeroValue190
  t46 := Tryz.underlying191
  a46 := Tryz.isAgg191
  z46 := Tryz.sizeOf191
  v46 := Tryz.zeroValue191
  t50 := Tryz.underlying55
  a50 := Tryz.isAgg55
  z50 := Tryz.sizeOf55
  v50 := Tryz.zeroValue55
  t53 := Tryz.underlying197
  a53 := Tryz.isAgg197
  z53 := Tryz.sizeOf197
  v53 := Tryz.zeroValue197
  t55 := Tryz.underlying143
  a55 := Tryz.isAgg143
  z55 := Tryz.sizeOf143
  v55 := Tryz.zeroValue143
  t66 := Tryz.underlying200
  a66 := Tryz.isAgg200
  z66 := Tryz.sizeOf200
  v66 := Tryz.zeroValue200
  t70 := Tryz.underlying204
  a70 := Tryz.isAgg204
  z70 := Tryz.sizeOf204
  v70 := Tryz.zeroValue204
  t76 := Tryz.underlying206
  a76 := Tryz.isAgg206
  z76 := Tryz.sizeOf206
  v76 := Tryz.zeroValue206
  t77 := Tryz.underlying207
  a77 := Tryz.isAgg207
  z77 := Tryz.sizeOf207
  v77 := Tryz.zeroValue207 }
end Go.Proofs
namespace Go.Proofs.YtmneilbfpomobaaGreat
open Go.RowKit Go.Shelf Go.Sort
namespace HI

set_option maxRecDepth 100000 in
theorem cmp_exact {β : Type} (x y : It β) (w : World) (c0 : w.cell? ⟨x.b, 0, none⟩ = some (.int .i64 x.at_)) (c1 : w.cell? ⟨x.b, 1, none⟩ = some (.int .i64 x.id)) (d0 : w.cell? ⟨y.b, 0, none⟩ = some (.int .i64 y.at_)) (d1 : w.cell? ⟨y.b, 1, none⟩ = some (.int .i64 y.id)) :
    Calls Tryz.prog 24 #[.pointer (some ⟨x.b, 0, none⟩), .pointer (some ⟨y.b, 0, none⟩)] w fun e w' => e = .returned (.int .i64 (cmp x y)) ∧ ∃ q os, w' = Sort.grow (w.drewN q) os := by
  rw [← cmp_sgn]
  go_enter Tryz.func24, Tryz.ntmps24
  go_wp2_with fail
  refine wp_region_still_tail 18 (by kernel_rfl) (by kernel_rfl) ?_
  simp only [List.take_succ_cons, List.take_zero, List.drop_succ_cons, List.drop_zero]
  iterate 8 still_step
  still_call ((compare_walk x.at_ y.at_ _).mono fun e w' h => ⟨h.1, h.2.symm⟩)
  iterate 8 still_step
  still_call ((compare_walk x.id y.id _).mono fun e w' h => ⟨h.1, h.2.symm⟩)
  refine wpStill_nil ?_
  change wpList _ _ _ _ _ w.drew
  go_wp2_with fail
  refine (or_walk w.heap.size (sgn x.at_ y.at_) (sgn x.id y.id) _ (World.cell?_alloc_new w _ _ 0) (World.cell?_alloc_new w _ _ 1)).mono ?_
  rintro e w' ⟨rfl, rfl⟩
  go_wp2_with fail
  all_goals
    go_ret
    first
      | exact ⟨rfl, 1, #[.cells #[.int .i64 (sgn x.at_ y.at_), .int .i64 (sgn x.id y.id)] 3], by rw [← Sort.alloc_eq_grow]; rfl⟩
      | exact ⟨rfl, 1, #[.cells #[.int .i64 0, .int .i64 (sgn x.id y.id)] 3], by rw [← Sort.alloc_eq_grow]; rfl⟩

/-- the order of the places -/
def cfA {β : Type} {n : Nat} (a : Nat → It β) (i j : Fin n) : Int := cmp (a i) (a j)
theorem ltA {β : Type} {n : Nat} (a : Nat → It β) (i j : Fin n) : ltOf (cfA a) i j = true ↔ (a i).lt (a j) := by
  unfold ltOf cfA
  rw [decide_eq_true_iff]
  exact cmp_neg
theorem swoA {β : Type} {n : Nat} (a : Nat → It β) : SWO (ltOf (cfA (n := n) a)) where
  irrefl x := by
    rw [← Bool.not_eq_true, ltA]
    unfold It.lt; omega
  trans x y z h1 h2 := by
    rw [ltA] at *
    unfold It.lt at *; omega
  ntrans x y z h1 h2 := by
    rw [← Bool.not_eq_true, ltA] at *
    unfold It.lt at *; omega
theorem totA {β : Type} {n : Nat} {a : Nat → It β} {R : List (It β)} (h : Items a n R) (i j : Fin n) (h1 : ltOf (cfA a) i j = false) (h2 : ltOf (cfA a) j i = false) : i = j := by
  rw [← Bool.not_eq_true, ltA] at h1 h2
  have hi : a i ∈ R := h.mem.2 ⟨i, i.2, rfl⟩
  have hj : a j ∈ R := h.mem.2 ⟨j, j.2, rfl⟩
  apply Fin.ext
  exact h.inj i.2 j.2 (by unfold It.lt at *; omega)

theorem leA {β : Type} {n : Nat} (a : Nat → It β) (i j : Fin n) : (!ltOf (cfA a) j i) = true ↔ (a i).le (a j) := by
  rw [Bool.not_eq_true', ← Bool.not_eq_true, ltA]
  exact It.not_lt

section
variable {β : Type} {n : Nat} {a : Nat → It β} {R : List (It β)} {w : World} {blk cap : Nat}

/-- below the row's block a world of the sort's is as the caller's -/
theorem cell_sortWorld {α : Type} [Inhabited α] (enc : α → Value) (w : World) (blk off m : Nat) (d : Array α) (os : Array Obj) {p : Addr} (hb : p.block ≠ blk) (hp : p.block < w.heap.size) : (sortWorld enc w blk off m d os).cell? p = w.cell? p := by
  unfold sortWorld
  rw [cell?_grow _ _ _ (by simpa [putRow, mapBlock, ahead] using hp), cell?_putRow_other _ _ _ _ _ _ (.inl hb)]
  rfl

theorem only_sortWorld {α : Type} [Inhabited α] (enc : α → Value) (w : World) (blk off m : Nat) (d : Array α) (os : Array Obj) : Only (fun b => b = blk) w (sortWorld enc w blk off m d os) := by
  refine ⟨rfl, rfl, rfl, ?_, fun b hb hne => ?_⟩
  · simp [sortWorld, grow, putRow, mapBlock]
  · unfold sortWorld
    rw [heap_grow_old _ _ (by simpa [putRow, mapBlock, ahead] using hb)]
    simp [putRow, mapBlock, Array.getElem?_modify, Ne.symm hne]

theorem enters_sort : ∀ args w, (callFunc 24 args).run Tryz.prog w = .ok (.enter 24 args) w := enters_of Tryz.func24 (by kernel_rfl) rfl

/-- slices.SortFunc of the collected pointers: they stand in the order of what waits. -/
theorem sort_some {k : Nat} {a : Nat → It β} {R : List (It β)} (its : Items a (k + 1) R) (hs : R.Pairwise It.le) (hk : k < 1000000)
    (c0 : ∀ i, i < k + 1 → w.cell? ⟨(a i).b, 0, none⟩ = some (.int .i64 (a i).at_)) (c1 : ∀ i, i < k + 1 → w.cell? ⟨(a i).b, 1, none⟩ = some (.int .i64 (a i).id)) (hne : ∀ i, i < k + 1 → (a i).b ≠ blk)
    (hrow : ∀ j, j < k + 1 → w.cell? ⟨blk, j, none⟩ = some (ptrB (a j).b) ∧ w.frozen? ⟨blk, j, none⟩ = false) :
    Calls Tryz.prog 87 #[.slice (some ⟨blk, 0, none⟩) (k + 1) cap, .func (.func 24) #[] #[]] w fun e w' =>
      e = .returned (.tuple #[]) ∧ Only (fun b => b = blk) w w' ∧ ∀ j (hj : j < R.length), w'.cell? ⟨blk, j, none⟩ = some (ptrB R[j].b) := by
  haveI : Inhabited (Fin (k + 1)) := ⟨⟨0, by omega⟩⟩
  have hblk : blk < w.heap.size := lt_of_cell (hrow 0 (by omega)).1
  have hdj : ∀ j (hj : j < k + 1), (List.finRange (k + 1)).toArray[j]! = (⟨j, hj⟩ : Fin (k + 1)) := fun j hj => by
    rw [getElem!_pos _ j (by simpa using hj)]
    simp
  have hds : (List.finRange (k + 1)).toArray.size = k + 1 := by simp
  have hH : Holds (fun i : Fin (k + 1) => ptrB (a i).b) w blk 0 (List.finRange (k + 1)).toArray := fun j hj => by
    rw [hds] at hj
    rw [hdj j hj, Nat.zero_add]
    exact hrow j hj
  have hcmp : CmpLays1 Tryz.prog 24 #[] (fun i : Fin (k + 1) => ptrB (a i).b) (cfA a) blk 0 (List.finRange (k + 1)).toArray.size w := fun m os dk hsz x y =>
    have e : ∀ (i : Fin (k + 1)) o v, w.cell? ⟨(a i).b, o, none⟩ = some v → (sortWorld (fun i : Fin (k + 1) => ptrB (a i).b) w blk 0 m dk os).cell? ⟨(a i).b, o, none⟩ = some v := fun i o v h =>
      (cell_sortWorld _ w blk 0 m dk os (p := ⟨(a i).b, o, none⟩) (hne i i.2) (lt_of_cell h)).trans h
    cmp_exact (a x) (a y) _ (e x 0 _ (c0 x x.2)) (e x 1 _ (c1 x x.2)) (e y 0 _ (c0 y y.2)) (e y 1 _ (c1 y y.2))
  have hS := Any.slices_SortFunc_total Tryz.sortLI (fun i : Fin (k + 1) => ptrB (a i).b) (fun _ => rfl) (cfA a) (swoA a) 24 #[] blk 0 cap (List.finRange (k + 1)).toArray w enters_sort hcmp hH hblk (by rw [hds]; omega) (fun x y => totA its x y)
  rw [hds] at hS
  refine hS.mono ?_
  rintro e w' ⟨rfl, m, os, rfl⟩
  refine ⟨rfl, only_sortWorld _ _ _ _ _ _ _, fun j hj => ?_⟩
  obtain ⟨M, hM⟩ : ∃ M, M = ((List.finRange (k + 1)).toArray.toList.mergeSort fun x y => !ltOf (cfA a) y x) := ⟨_, rfl⟩
  have hR : M.map (fun i => a i.val) = R := by rw [hM]; exact sorted_places its hs _ (fun i j => leA a i j)
  have hlen : M.length = k + 1 := by rw [hM]; simp
  rw [← hM]
  have hjk : j < k + 1 := by rw [its.len] at hj; exact hj
  unfold sortWorld
  rw [cell?_grow _ _ _ (by simpa [putRow, mapBlock, ahead] using hblk)]
  have hp := cell?_putRow (fun i : Fin (k + 1) => ptrB (a i).b) (Sort.ahead w m) blk 0 (List.finRange (k + 1)).toArray M.toArray (holds_ahead _ _ _ _ _ _ hH) (by simp [hlen]) j (by simp [hlen]; exact hjk)
  rw [Nat.zero_add] at hp
  rw [hp, getElem!_pos _ j (by simp [hlen]; exact hjk)]
  subst hR
  simp

theorem sort_none (p : Option Addr) (cap : Nat) (fv : Value) (w : World) : Calls Tryz.prog 87 #[.slice p 0 cap, fv] w fun e w' => e = .returned (.tuple #[]) ∧ w' = w :=
  AnyF.slices_SortFunc_none (P := Tryz.prog) (ρ := Tryz.sortLI_ren) { Tryz.sortLI with } p cap fv w
end

end HI
end Go.Proofs.YtmneilbfpomobaaGreat
