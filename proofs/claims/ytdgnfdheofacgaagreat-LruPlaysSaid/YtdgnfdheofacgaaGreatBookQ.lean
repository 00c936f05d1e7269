/- commonsbook.Book at ints: are the lists what they were (still); each is marked (put). -/
import Derived.Test.YtdgnfdheofacgaaGreatBookP
import Derived.BigRegion
namespace Go.Proofs.YtdgnfdheofacgaaGreat
open Go.RowKit
namespace BK

theorem get_lt {α : Type} {Z : List α} {i : Nat} (h : i < Z.length) : ∃ z, Z[i]? = some z := ⟨Z[i], List.getElem?_eq_getElem h⟩

theorem still_any {K : Nat → Prop} {w : World} {B : Nat} {L : List (List Int)} (h : Is K w B L) (hL : L.length ≤ 1000) (hl : ∀ l ∈ L, l.length ≤ 1000000) :
    Calls Tryz.prog 30 #[.pointer (some ⟨B, 0, none⟩)] w fun e w' => e = .returned (.bool true) ∧ Like w' w := by
  obtain ⟨vi, vw, Z, h, rfl, hm⟩ := h
  obtain ⟨a, cap, rfl⟩ := own_shape h.ri
  obtain ⟨a2, cap2, rfl⟩ := own_shape h.rc
  rw [List.length_map] at hL
  have HK := hide h
  have HM := hide hm
  have HL := hide hl
  clear h hm hl
  go_enter Tryz.func30, Tryz.ntmps30
  go_wp2_with fail
  go_loopw [3] (fun i wr => ∃ j : Nat, j ≤ Z.length ∧ i = .int .i64 j ∧ Like wr w) (fun i _ => Z.length - (intOf i).toNat)
  case atStart => exact ⟨0, Nat.zero_le _, rfl, Like.refl _⟩
  case round =>
    obtain ⟨j, hj, rfl, hlk⟩ := hrel
    have hb := HK.out.like hlk
    have hci := hb.ci
    by_cases hlt : j < Z.length
    · obtain ⟨z, hz⟩ := get_lt hlt
      have hzm := List.mem_of_getElem? hz
      obtain ⟨g, cp, e⟩ := own_form hb.ri (by omega)
      cases e
      obtain ⟨g2, cp2, e⟩ := own_form hb.rc (by omega)
      cases e
      have c1 : wr.cell? ⟨g, j, none⟩ = some z.v := by rw [hb.ri.cellAt j (by omega), List.getElem?_map, hz]; rfl
      have c2 : wr.cell? ⟨g2, j, none⟩ = some z.c := by rw [hb.rc.cellAt j (by omega), List.getElem?_map, hz]; rfl
      have hlm : z.m = z.l := by
        have e1 := congrArg (fun q => q[j]?) HM.out
        simp only [List.getElem?_map, hz, Option.map_some, Option.some.injEq] at e1
        exact e1
      obtain ⟨o1, o2⟩ := hb.own z hzm
      rw [hlm] at o2
      have HH1 := Has.own o1
      have HH2 := Has.own o2
      have hll := HL.out z.l (List.mem_map.2 ⟨z, hzm, rfl⟩)
      have hcw := hb.cw
      have hjn : (j : Int) < Z.length := by omega
      obtain ⟨b1, k1, e1⟩ := HH1.shape
      obtain ⟨b2, k2, e2⟩ := HH2.shape
      rw [e1] at c1 HH1
      rw [e2] at c2 HH2
      clear hb hlm o1 o2 hz hzm e1 e2
      go_wp2_with fail
      go_quiet ((go_at_call 19; exact Calls.quiet_of (same_any (HH1.drewN _) (HH2.drewN _) hll)))
      go_wp2_with fail
      go_roundw
      case rel => exact ⟨j + 1, hlt, by go_num, ⟨hlk.heap, hlk.os, hlk.tape, hlk.output⟩⟩
      case measure => simp [intOf]; omega
    · obtain rfl : j = Z.length := by omega
      clear hb
      go_wp2_with fail
      go_ret
      exact ⟨rfl, hlk⟩

/-- the first k of them marked -/
def markZ (k : Nat) (Z : List Kp) : List Kp := Z.mapIdx fun i z => if i < k then { z with l := marks i 0 z.l.length } else z

theorem markZ_zero (Z : List Kp) : markZ 0 Z = Z := by
  apply List.ext_getElem?
  intro i
  simp [markZ]
@[simp] theorem length_markZ (k : Nat) (Z : List Kp) : (markZ k Z).length = Z.length := by simp [markZ]
theorem markZ_get (k : Nat) (Z : List Kp) {i : Nat} {z : Kp} (h : Z[i]? = some z) : (markZ k Z)[i]? = some (if i < k then { z with l := marks i 0 z.l.length } else z) := by simp [markZ, h]
theorem markZ_succ {k : Nat} {Z : List Kp} {z : Kp} (h : Z[k]? = some z) : (markZ k Z).set k { z with l := marks k 0 z.l.length } = markZ (k + 1) Z := by
  have hk := (List.getElem?_eq_some_iff.1 h).1
  apply List.ext_getElem?
  intro i
  rw [List.getElem?_set]
  by_cases hi : i < Z.length
  · have hz : Z[i]? = some Z[i] := List.getElem?_eq_getElem hi
    rw [markZ_get _ _ hz, markZ_get _ _ hz]
    split
    · rename_i e
      subst e
      rw [h] at hz
      cases hz
      simp [hk]
    · rename_i e
      by_cases h2 : i < k
      · rw [if_pos h2, if_pos (by omega)]
      · rw [if_neg h2, if_neg (by omega)]
  · rw [if_neg (by omega), List.getElem?_eq_none (by simp; omega), List.getElem?_eq_none (by simp; omega)]

theorem marks_set (i n t : Nat) (l : List Int) (hl : l.length = n) (ht : t < n) : (marks i 0 t ++ l.drop t).set t (-1000000 * (i : Int) - ((0 + t : Nat) : Int) - 7) = marks i 0 (t + 1) ++ l.drop (t + 1) := by
  rw [List.set_append_right _ _ (by simp), marks_succ, List.append_assoc, length_marks, Nat.sub_self, List.drop_eq_getElem_cons (by omega)]
  rfl

set_option maxRecDepth 100000 in
set_option maxHeartbeats 1000000 in
theorem put_any {K : Nat → Prop} {w : World} {B : Nat} {vi vw : Value} {Z : List Kp} (h : At K w B vi vw Z) (hZ : Z.length ≤ 1000) (hl : ∀ z ∈ Z, z.l.length ≤ 1000000) :
    Calls Tryz.prog 48 #[.pointer (some ⟨B, 0, none⟩)] w fun e w' => e = .returned (.tuple #[]) ∧ At K w' B vi vw (markZ Z.length Z) ∧ Only K w w' := by
  obtain ⟨a, cap, rfl⟩ := own_shape h.ri
  have HL := hide hl
  have h0 : At K w B (.slice a Z.length cap) vw (markZ 0 Z) := by rw [markZ_zero]; exact h
  have HBK := hide h
  clear h hl
  go_enter Tryz.func48, Tryz.ntmps48
  go_wp2_with fail
  go_loopw [2, 3, 4] (fun i _ _ wr => ∃ j : Nat, j ≤ Z.length ∧ i = .int .i64 j ∧ At K wr B (.slice a Z.length cap) vw (markZ j Z) ∧ Only K w wr) (fun i _ _ _ => Z.length - (intOf i).toNat)
  case atStart => exact ⟨0, Nat.zero_le _, rfl, h0, Only.refl _ _⟩
  case round =>
    clear h0
    obtain ⟨j, hj, rfl, hb, ho⟩ := hrel
    have hci := hb.ci
    by_cases hlt : j < Z.length
    · obtain ⟨z, hz⟩ := get_lt hlt
      have hzm := List.mem_of_getElem? hz
      have hz2 := markZ_get j Z hz
      rw [if_neg (by omega)] at hz2
      have hri := hb.ri
      rw [length_markZ] at hri
      obtain ⟨g, cp, e⟩ := own_form hri (by omega)
      cases e
      have c1 : wr.cell? ⟨g, j, none⟩ = some z.v := by rw [hri.cellAt j (by omega), List.getElem?_map, hz2]; rfl
      obtain ⟨o1, o2⟩ := hb.own z (List.mem_of_getElem? hz2)
      have hll := HL.out z hzm
      have hjn : (j : Int) < Z.length := by omega
      obtain ⟨b1, k1, e1⟩ := own_shape o1
      rw [e1] at c1
      have HZ2 := hide hz2
      have HZ := hide hz
      have HB := hide hb
      obtain ⟨n, hn⟩ : ∃ n, n = z.l.length := ⟨_, rfl⟩
      have HN := hide hn
      rw [← hn] at c1 e1 hll
      have HE := hide e1
      clear hb o1 o2 hz hz2 hzm hri hn e1
      obtain ⟨wo, hwo⟩ : ∃ wo : World, wo = wr := ⟨_, rfl⟩
      subst hwo
      go_wp2_with fail
      refine (mark_any j 0 n (by omega) (by omega) hll _).mono ?_
      rintro e w1 ⟨u, rfl, hu, o1⟩
      obtain ⟨au, cu, rfl⟩ := own_shape hu
      have hb1 := HB.out.kept o1 (fun _ _ q => q)
      have hs1 : Hid ((markZ j Z).set j { z with l := marks j 0 0 ++ z.l.drop 0 } = markZ j Z) := hide (by
        apply List.ext_getElem?
        intro i
        rw [List.getElem?_set]
        split
        · rename_i e; subst e; rw [if_pos (by simpa using hlt), HZ2.out]; simp [marks_zero]
        · rfl)
      have hu0 := (hu.lt)
      go_wp2_with fail
      go_loopw [4] (fun t wr => ∃ k : Nat, k ≤ n ∧ t = .int .i64 k ∧ At K wr B (.slice (some ⟨g, 0, none⟩) Z.length cap) vw ((markZ j Z).set j { z with l := marks j 0 k ++ z.l.drop k }) ∧ Only K w1 wr) (fun t _ => n - (intOf t).toNat)
      case atStart => exact ⟨0, Nat.zero_le _, rfl, by rw [hs1.out]; exact hb1, Only.refl _ _⟩
      case round =>
        clear hb1
        obtain ⟨k, hk, rfl, hb2, ho2⟩ := hrel
        by_cases hlt2 : k < n
        · have hz3 : ((markZ j Z).set j { z with l := marks j 0 k ++ z.l.drop k })[j]? = some { z with l := marks j 0 k ++ z.l.drop k } := by simp [hlt]
          have hln : (marks j 0 k ++ z.l.drop k).length = n := by simp; have := HN.out; omega
          obtain ⟨r1, _⟩ := hb2.own _ (List.mem_of_getElem? hz3)
          simp only [hln] at r1
          obtain ⟨g1, k2, e2⟩ := own_form r1 (by omega)
          have e3 := HE.out.symm.trans e2
          cases e3
          rw [e2] at r1
          obtain ⟨q1, q2⟩ := hb2.put hz3 (g := g1) (cap := k1) (j := k) (by rw [hln]; exact e2) (by rw [hln]; exact hlt2) (-1000000 * (j : Int) - ((0 + k : Nat) : Int) - 7)
          rw [List.set_set] at q1
          simp only [marks_set j n k z.l HN.out.symm hlt2] at q1
          rw [Nat.zero_add] at q1 q2
          obtain ⟨gu, ku, e4⟩ := own_form hu (by omega)
          cases e4
          have hguK : ¬ K gu := fun q => by have := HB.out.klt gu q; have := (hu0 gu rfl).1; omega
          have cu : wr.cell? ⟨gu, k, none⟩ = some (.int .i64 (-1000000 * (j : Int) - (k : Int) - 7)) := by
            refine (ho2.cell (p := ⟨gu, k, none⟩) (hu0 gu rfl).2 hguK).trans ?_
            rw [hu.cellAt k (by omega), List.getElem?_map, marks_get _ _ _ _ hlt2, Nat.zero_add]; rfl
          have c5 : ∃ u5, wr.cell? ⟨g1, k, none⟩ = some u5 := ⟨_, by rw [r1.cellAt k (by omega)]; exact ints_get (by rw [hln]; exact hlt2)⟩
          obtain ⟨u5, c5⟩ := c5
          have f5 := r1.frozenAt k
          have hci2 := hb2.ci
          have hri2 := hb2.ri
          rw [List.length_set, length_markZ] at hri2
          have c6 : wr.cell? ⟨g, j, none⟩ = some (.slice (some ⟨g1, 0, none⟩) n k1) := by
            rw [hri2.cellAt j (by omega), List.getElem?_map, hz3]; exact congrArg some e2
          have HQ1 := hide q1
          have HQ2 := hide (ho2.trans q2)
          have hkn : (k : Int) < n := by omega
          clear q1 q2 hz3 hln r1 e2 hb2 ho2 hri2
          go_wp2_with fail
          go_region
          go_wp2_with fail
          go_roundw
          case rel => exact ⟨k + 1, hlt2, by go_num, HQ1.out.like (w' := (wr.setCell ⟨g1, k, none⟩ (.int .i64 (-1000000 * (j : Int) - (k : Int) - 7))).drew) ⟨rfl, rfl, rfl, rfl⟩, HQ2.out.trans (Only.drew _ _)⟩
          case measure => simp [intOf]; omega
        · obtain rfl : k = n := by omega
          have hdr : z.l.drop k = [] := List.drop_eq_nil_of_le (by rw [← HN.out]; exact Nat.le_refl _)
          rw [hdr, List.append_nil] at hb2
          have hms := markZ_succ HZ.out
          rw [← HN.out] at hms
          rw [hms] at hb2
          have ho3 := (ho.trans (o1.mono fun _ _ q => q.elim)).trans ho2
          clear hms hdr ho ho2 o1
          go_wp2_with fail
          go_roundw
          case rel => exact ⟨j + 1, hlt, by go_num, hb2, ho3⟩
          case measure => simp [intOf]; omega
    · obtain rfl : j = Z.length := by omega
      go_wp2_with fail
      go_end0
      exact ⟨rfl, hb, ho⟩

end BK
end Go.Proofs.YtdgnfdheofacgaaGreat
