/- The walks of package heap at int, second part: swap, up, down. -/
import Derived.Test.YtmneilbfpomobaaGreatCmp
import Derived.Test.YtmneilbfpomobaaGreatHeapM
import Derived.Deep.LoopGhost
namespace Go.Proofs.YtmneilbfpomobaaGreat
open Go.RowKit
namespace HI

abbrev V : Int → Value := Value.int .i64
abbrev At (F : Nat → Prop) (w : World) (c : Nat) (v : Value) (n : Nat) (a : Nat → It Int) (R : List (It Int)) (last : Int) : Prop := HeapAt V 70 F w c v n a R last

set_option maxHeartbeats 1000000 in
theorem swap_walk (c g n cap i j bi bj : Nat) (uj pi pj : Value) (w : World) (hi : i < n) (hj : j < n) (_hn : n ≤ 9223372036854775807)
    (cl : w.cell? ⟨c, 0, none⟩ = some (.slice (some ⟨g, 0, none⟩) n cap)) (hgc : g ≠ c) (hbc : bi ≠ c ∧ bj ≠ c) (hbg : bi ≠ g ∧ bj ≠ g)
    (ci : w.cell? ⟨g, i, none⟩ = some (ptrB bi)) (cj : w.cell? ⟨g, j, none⟩ = some (ptrB bj)) (fg : ∀ k, w.frozen? ⟨g, k, none⟩ = false)
    (c2 : (w.setCell ⟨g, i, none⟩ (ptrB bj)).cell? ⟨g, j, none⟩ = some uj)
    (r1 : ((w.setCell ⟨g, i, none⟩ (ptrB bj)).setCell ⟨g, j, none⟩ (ptrB bi)).cell? ⟨g, i, none⟩ = some (ptrB bj)) (r2 : ((w.setCell ⟨g, i, none⟩ (ptrB bj)).setCell ⟨g, j, none⟩ (ptrB bi)).cell? ⟨g, j, none⟩ = some (ptrB bi))
    (pcj : ((w.setCell ⟨g, i, none⟩ (ptrB bj)).setCell ⟨g, j, none⟩ (ptrB bi)).cell? ⟨bj, 3, none⟩ = some pj) (fj : w.frozen? ⟨bj, 3, none⟩ = false)
    (pci : (((w.setCell ⟨g, i, none⟩ (ptrB bj)).setCell ⟨g, j, none⟩ (ptrB bi)).setCell ⟨bj, 3, none⟩ (.int .i64 i)).cell? ⟨bi, 3, none⟩ = some pi) (fi : w.frozen? ⟨bi, 3, none⟩ = false) :
    Calls Tryz.prog 20 #[.pointer (some ⟨c, 0, none⟩), .int .i64 i, .int .i64 j] w fun e w' => e = .returned (.tuple #[]) ∧
      Like w' ((((w.setCell ⟨g, i, none⟩ (ptrB bj)).setCell ⟨g, j, none⟩ (ptrB bi)).setCell ⟨bj, 3, none⟩ (.int .i64 i)).setCell ⟨bi, 3, none⟩ (.int .i64 j)) := by
  have hi2 : (i : Int) < n := by omega
  have hj2 : (j : Int) < n := by omega
  have hi3 : (0 : Int) ≤ i := by omega
  have hj3 : (0 : Int) ≤ j := by omega
  have k2 : ((w.setCell ⟨g, i, none⟩ (ptrB bj)).setCell ⟨g, j, none⟩ (ptrB bi)).cell? ⟨c, 0, none⟩ = some (.slice (some ⟨g, 0, none⟩) n cap) := by
    rw [cell_set_ne _ (by simp), cell_set_ne _ (by simp)]; exact cl
  have fi' := fg i
  have fj' := fg j
  clear fg
  go_enter Tryz.func20, Tryz.ntmps20
  go_wp2_with fail
  go_region
  go_wp2_with fail
  go_region
  go_end0
  exact ⟨rfl, rfl, rfl, rfl, rfl⟩

/-- swap of two places of a heap -/
theorem swap_any {F : Nat → Prop} {w : World} {c : Nat} {v : Value} {n : Nat} {a : Nat → It Int} {R : List (It Int)} {last : Int} (h : At F w c v n a R last) (hn : n ≤ maxLen) {i j : Nat} (hi : i < n) (hj : j < n) :
    Calls Tryz.prog 20 #[.pointer (some ⟨c, 0, none⟩), .int .i64 i, .int .i64 j] w fun e w' => e = .returned (.tuple #[]) ∧ At F w' c v n (swapA a i j) R last ∧ Only F w w' := by
  obtain ⟨g, cap, rfl⟩ := h.form (by omega)
  obtain ⟨hgF, hgc, hgR⟩ := h.own g rfl
  have hai := h.mem hi
  have haj := h.mem hj
  have hgi := hgR _ hai
  have hgj := hgR _ haj
  have ci := (h.cell hi).1
  have cj := (h.cell hj).1
  have hn' : n ≤ 9223372036854775807 := by unfold maxLen at hn; exact hn
  have c2 : ∃ u, (w.setCell ⟨g, i, none⟩ (ptrB (a j).b)).cell? ⟨g, j, none⟩ = some u := by
    rw [cell_set _ ci]
    by_cases e : (⟨g, j, none⟩ : Addr) = ⟨g, i, none⟩
    · exact ⟨_, if_pos e⟩
    · exact ⟨_, (if_neg e).trans cj⟩
  obtain ⟨u, c2⟩ := c2
  have r1 : ((w.setCell ⟨g, i, none⟩ (ptrB (a j).b)).setCell ⟨g, j, none⟩ (ptrB (a i).b)).cell? ⟨g, i, none⟩ = some (ptrB (a j).b) := by
    rw [cell_set _ c2, cell_set _ ci]
    by_cases e : i = j
    · subst e; simp
    · simp
  have r2 : ((w.setCell ⟨g, i, none⟩ (ptrB (a j).b)).setCell ⟨g, j, none⟩ (ptrB (a i).b)).cell? ⟨g, j, none⟩ = some (ptrB (a i).b) := World.cell?_setCell_same _ _ _ c2
  have pcj : ((w.setCell ⟨g, i, none⟩ (ptrB (a j).b)).setCell ⟨g, j, none⟩ (ptrB (a i).b)).cell? ⟨(a j).b, 3, none⟩ = some (.int .i64 j) := by
    rw [cell_set_ne _ (by simp), cell_set_ne _ (by simp)]; exact (h.items j hj).place
  have pci : ∃ u, (((w.setCell ⟨g, i, none⟩ (ptrB (a j).b)).setCell ⟨g, j, none⟩ (ptrB (a i).b)).setCell ⟨(a j).b, 3, none⟩ (.int .i64 i)).cell? ⟨(a i).b, 3, none⟩ = some u := by
    rw [cell_set _ pcj]
    by_cases e : (⟨(a i).b, 3, none⟩ : Addr) = ⟨(a j).b, 3, none⟩
    · exact ⟨_, if_pos e⟩
    · rw [if_neg e, cell_set_ne _ (by simp), cell_set_ne _ (by simp)]
      exact ⟨_, (h.items i hi).place⟩
  obtain ⟨u2, pci⟩ := pci
  refine (swap_walk c g n cap i j (a i).b (a j).b _ _ _ w hi hj hn' h.sl hgc ⟨h.ne _ hai, h.ne _ haj⟩ ⟨Ne.symm hgi, Ne.symm hgj⟩ ci cj (fun k => h.row.frozenAt k) c2 r1 r2 pcj ((h.items j hj).free 3) pci ((h.items i hi).free 3)).mono ?_
  rintro e w' ⟨rfl, hw⟩
  obtain ⟨h1, h2⟩ := h.swap hi hj hw
  exact ⟨rfl, h1, h2⟩


set_option maxRecDepth 100000 in
set_option maxHeartbeats 1000000 in
/-- up, from a place that may be less than its parent -/
theorem up_any {F : Nat → Prop} {w : World} {c : Nat} {v : Value} {n : Nat} {a : Nat → It Int} {R : List (It Int)} {last : Int} (h : At F w c v n a R last) (hn : n ≤ maxLen) {i : Nat} (hi : i < n) (hu : Hole a n i) :
    Calls Tryz.prog 19 #[.pointer (some ⟨c, 0, none⟩), .int .i64 i] w fun e w' => e = .returned (.tuple #[]) ∧ ∃ a', At F w' c v n a' R last ∧ ((UpOk a n i → HeapOrd a' n) ∧ DownOk a' n i) ∧ Only F w w' := by
  obtain ⟨g, cap, rfl⟩ := h.form (by omega)
  have hn' : n ≤ 9223372036854775807 := by unfold maxLen at hn; exact hn
  have HN := hide hn
  clear hn
  go_enter Tryz.func19, Tryz.ntmps19
  go_wp2_with fail
  go_loopw [1] (fun iv wr => ∃ (k : Nat) (a' : Nat → It Int), k < n ∧ iv = .int .i64 k ∧ At F wr c (.slice (some ⟨g, 0, none⟩) n cap) n a' R last ∧ UpWay a a' n i k ∧ Only F w wr) (fun iv _ => (intOf iv).toNat)
  case atStart => exact ⟨i, a, hi, rfl, h, UpWay.start hu, Only.refl _ _⟩
  case round =>
    clear h hu hi
    obtain ⟨k, a', hk, rfl, h, hu, ho⟩ := hrel
    have HU := hide hu
    clear hu
    by_cases h0 : k = 0
    · subst h0
      have hd : decide ((0 : Int) < ((0 : Nat) : Int)) = false := by decide
      go_wp2_with fail
      go_quiet (fail)
      go_wp2_with fail
      go_end0
      exact ⟨rfl, a', h.like ⟨rfl, rfl, rfl, rfl⟩, HU.out.stop (.inl rfl), ho.trans (Like.only (w' := wr.drewN nq) (w := wr) ⟨rfl, rfl, rfl, rfl⟩ F)⟩
    · have hd : 0 < k := by omega
      obtain ⟨q, hq⟩ : ∃ q, q = (k - 1) / 2 := ⟨_, rfl⟩
      obtain ⟨r, hr⟩ : ∃ r : Int, r = (k : Int) - 1 := ⟨_, rfl⟩
      have hqn : q < n := by omega
      have e1 : IntKind.i64.wrap ((k : Int) - 1) = r := by rw [hr]; exact IntWalk.i64_in _ ⟨by omega, by omega⟩
      have e2 : IntKind.i64.wrap (r.tdiv 2) = (q : Int) := by
        rw [Int.tdiv_eq_ediv_of_nonneg (by omega), show r / 2 = (q : Int) by omega]
        exact IntWalk.i64_in _ ⟨by omega, by omega⟩
      have hp : par k = q := hq.symm
      have ck := (h.cell hk).1
      have cp := (h.cell hqn).1
      have HQ := hide hq
      have HR := hide hr
      have HP := hide hp
      clear hq hr hp
      have hsl := h.sl
      have ik := h.items k hk
      have iq := h.items q hqn
      go_wp2_with fail
      refine wp_region_still_tail 19 (by kernel_rfl) (by kernel_rfl) ?_
      simp only [List.take_succ_cons, List.take_zero, List.drop_succ_cons, List.drop_zero]
      iterate 19 still_step
      refine wpStill_nil ?_
      change wpList _ _ _ _ _ wr.drew
      clear e1 e2
      have hq2 : ((k : Int) - 1) / 2 = (q : Int) := by have := HQ.out; omega
      have HQ2 := hide hq2
      clear hq2
      go_wp2_with fail
      refine (cmp_walk (a' k) (a' q) wr.drew ik.at_ ik.id iq.at_ iq.id).mono ?_
      rintro e w2 ⟨rfl, o2⟩
      have h2 := h.drew.kept o2 (fun b _ q => q)
      have ho2 : Only F w w2 := ho.trans ((Only.drew F wr).trans (o2.mono fun _ _ q => q.elim))
      clear ck cp hsl ik iq h ho o2
      by_cases hlt : (a' k).lt (a' q)
      · have hneg : cmp (a' k) (a' q) < 0 := cmp_neg.2 hlt
        have hq2 := HQ2.out
        go_wp2_with fail
        refine (swap_any h2 HN.out hk hqn).mono ?_
        rintro e w3 ⟨rfl, h3, o3⟩
        go_wp2_with fail
        go_roundw
        case rel =>
          have hst := HU.out.step hd hk (by rw [HP.out]; exact hlt)
          rw [HP.out] at hst
          exact ⟨q, _, hqn, by rw [HQ2.out], h3, hst, ho2.trans o3⟩
        case measure => have := HQ.out; simp [intOf]; omega
      · have hneg : ¬ cmp (a' k) (a' q) < 0 := fun q => hlt (cmp_neg.1 q)
        go_wp2_with fail
        go_end0
        exact ⟨rfl, a', h2, HU.out.stop (.inr (by rw [HP.out]; exact hlt)), ho2⟩


set_option maxRecDepth 100000 in
set_option maxHeartbeats 2000000 in
/-- down, from a place that may be greater than its children -/
theorem down_any {F : Nat → Prop} {w : World} {c : Nat} {v : Value} {n : Nat} {a : Nat → It Int} {R : List (It Int)} {last : Int} (h : At F w c v n a R last) (hn : n ≤ 1000000) {i : Nat} (hi : i < n) (hu : DownOk a n i) :
    Calls Tryz.prog 21 #[.pointer (some ⟨c, 0, none⟩), .int .i64 i] w fun e w' => e = .returned (.tuple #[]) ∧ ∃ a', At F w' c v n a' R last ∧ HeapOrd a' n ∧ Only F w w' := by
  obtain ⟨g, cap, rfl⟩ := h.form (by omega)
  go_enter Tryz.func21, Tryz.ntmps21
  go_wp2_with fail
  go_loopw [1, 4, 6] (fun iv _ _ wr => ∃ (k : Nat) (a' : Nat → It Int), k < n ∧ iv = .int .i64 k ∧ At F wr c (.slice (some ⟨g, 0, none⟩) n cap) n a' R last ∧ DownOk a' n k ∧ Only F w wr) (fun iv _ _ _ => n - (intOf iv).toNat)
  case atStart => exact ⟨i, a, hi, rfl, h, hu, Only.refl _ _⟩
  case round =>
    clear h hu hi
    obtain ⟨k, a', hk, rfl, h, hu, ho⟩ := hrel
    have HU := hide hu
    clear hu
    have h1 := h.alloc (.cells #[.int .i64 (2 * k + 1), .int .i64 (2 * k + 2)] 3)
    have ho1 : Only F w (wr.alloc (.cells #[.int .i64 (2 * k + 1), .int .i64 (2 * k + 2)] 3)) := ho.trans (Only.alloc F wr _)
    have hnF : ¬ F wr.heap.size := fun q => absurd (h.flt _ q) (by omega)
    clear h ho
    obtain ⟨wo, hwo⟩ : ∃ wo : World, wo = wr := ⟨_, rfl⟩
    subst hwo
    go_wp2_with fail
    go_loopw [4, 6, 16] (fun lv _ tv wq => ∃ t : Nat, t ≤ 2 ∧ tv = .int .i64 t ∧ lv = .int .i64 (leastT a' n k t) ∧ At F wq c (.slice (some ⟨g, 0, none⟩) n cap) n a' R last ∧ Only F w wq ∧ (∀ s, s < 2 → wq.cell? ⟨wo.heap.size, s, none⟩ = some (.int .i64 ((2 * k + 1 + s : Nat) : Int)))) (fun _ _ tv _ => 2 - (intOf tv).toNat)
    case atStart =>
      refine ⟨0, by omega, rfl, rfl, h1, ho1, ?_⟩
      intro s hs
      rw [World.cell?_alloc_new]
      have : s = 0 ∨ s = 1 := by omega
      rcases this with rfl | rfl
      · simp
      · simp; omega
    case round =>
      clear h1 ho1
      obtain ⟨t, ht, rfl, rfl, h1, ho1, hcs⟩ := hrel
      by_cases hlt : t < 2
      · have hct := hcs t hlt
        obtain ⟨kc, hkc⟩ : ∃ q, q = 2 * k + 1 + t := ⟨_, rfl⟩
        obtain ⟨l, hl⟩ : ∃ q, q = leastT a' n k t := ⟨_, rfl⟩
        have hln : l < n := by rw [hl]; exact leastT_lt hk t
        rw [← hkc] at hct
        rw [← hl]
        have HT : Hid (leastT a' n k (t + 1) = if kc < n ∧ (a' kc).lt (a' l) then kc else l) := by
          show leastT a' n k (t + 1) = if kc < n ∧ (a' kc).lt (a' l) then kc else l
          rw [hkc, hl]; rfl
        have HC := hide hcs
        clear hkc hl hcs
        have hsl := h1.sl
        by_cases hin : kc < n
        · have ck := (h1.cell hin).1
          have cl := (h1.cell hln).1
          have ik := h1.items kc hin
          have il := h1.items l hln
          have hk1 : (kc : Int) < n := by omega
          have hk0 : (0 : Int) ≤ kc := by omega
          have hl1 : (l : Int) < n := by omega
          have hl0 : (0 : Int) ≤ l := by omega
          go_wp2_with fail
          refine wp_region_still_tail 22 (by kernel_rfl) (by kernel_rfl) ?_
          simp only [List.take_succ_cons, List.take_zero, List.drop_succ_cons, List.drop_zero]
          iterate 22 still_step
          refine wpStill_nil ?_
          change wpList _ _ _ _ _ wr.drew
          go_wp2_with fail
          refine (cmp_walk (a' kc) (a' l) wr.drew ik.at_ ik.id il.at_ il.id).mono ?_
          rintro e w2 ⟨rfl, o2⟩
          have h2 := h1.drew.kept o2 (fun b _ q => q)
          have o2' : Only F wr w2 := (Only.drew F wr).trans (o2.mono fun _ _ q => q.elim)
          have hcs2 : Hid (∀ s, s < 2 → w2.cell? ⟨wo.heap.size, s, none⟩ = some (.int .i64 ((2 * k + 1 + s : Nat) : Int))) := fun s hs => (o2'.cell (p := ⟨wo.heap.size, s, none⟩) (lt_of_cell (HC.out s hs)) hnF).trans (HC.out s hs)
          have ho2 : Only F w w2 := ho1.trans o2'
          clear ck cl ik il hsl h1 ho1 o2 o2' hct
          by_cases hlt2 : (a' kc).lt (a' l)
          · have hneg : cmp (a' kc) (a' l) < 0 := cmp_neg.2 hlt2
            have HV : Hid (leastT a' n k (t + 1) = kc) := by show leastT a' n k (t + 1) = kc; rw [HT.out, if_pos ⟨hin, hlt2⟩]
            go_wp2_with fail
            go_roundw
            case rel => exact ⟨t + 1, hlt, by go_num, by rw [HV.out], h2, ho2, hcs2.out⟩
            case measure => simp [intOf]; omega
          · have hneg : ¬ cmp (a' kc) (a' l) < 0 := fun q => hlt2 (cmp_neg.1 q)
            have HV : Hid (leastT a' n k (t + 1) = l) := by show leastT a' n k (t + 1) = l; rw [HT.out, if_neg (fun q => hlt2 q.2)]
            go_wp2_with fail
            go_roundw
            case rel => exact ⟨t + 1, hlt, by go_num, by rw [HV.out], h2, ho2, hcs2.out⟩
            case measure => simp [intOf]; omega
        · have hge : n ≤ kc := by omega
          have HV : Hid (leastT a' n k (t + 1) = l) := by show leastT a' n k (t + 1) = l; rw [HT.out, if_neg (fun q => hin q.1)]
          go_wp2_with fail
          go_quiet (fail)
          go_wp2_with fail
          go_roundw
          case rel => exact ⟨t + 1, hlt, by go_num, by rw [HV.out], h1.like (w' := wr.drewN nq) ⟨rfl, rfl, rfl, rfl⟩, ho1.trans (Like.only (w' := wr.drewN nq) (w := wr) ⟨rfl, rfl, rfl, rfl⟩ F), HC.out⟩
          case measure => simp [intOf]; omega
      · obtain rfl : t = 2 := by omega
        rw [leastT_two]
        have hln : leastOf a' n k < n := by rw [← leastT_two]; exact leastT_lt hk 2
        clear hcs hlt ht
        by_cases hs : leastOf a' n k = k
        · rw [hs]
          have HO := hide (HU.out.stop hs)
          clear hs hln
          have hb : ((k : Int) == (k : Int)) = true := by simp
          go_wp2_with fail
          refine bodyPost_ret (results_none rfl _ _ _) rfl ?_
          exact ⟨rfl, a', h1, HO.out, ho1⟩
        · have HO := hide (HU.out.step hs)
          have hgt : k < leastOf a' n k := by
            rcases (leastOf_cases a' n k).1 with q | ⟨_, q, _⟩
            · exact absurd q hs
            · unfold par at q; omega
          generalize leastOf a' n k = l at *
          have hb : ((l : Int) == (k : Int)) = false := by simp; omega
          clear hs
          go_wp2_with fail
          refine (swap_any h1 (by unfold maxLen; omega) hk hln).mono ?_
          rintro e w3 ⟨rfl, h3, o3⟩
          go_wp2_with fail
          go_roundw
          case rel => exact ⟨l, _, hln, rfl, h3, HO.out, ho1.trans o3⟩
          case measure => simp [intOf]; omega

end HI
end Go.Proofs.YtmneilbfpomobaaGreat
