/- commonsbook.Book.Apart, where lists of ints alone are kept: true. Printed by bookapart.py. -/
import Derived.Test.YtdgnfdheofacgaaGreatBookR
import Derived.Test.YtdgnfdheofacgaaGreatBookE
namespace Go.Proofs.YtdgnfdheofacgaaGreat
open Go.RowKit
namespace BK

theorem rest_only {w w' : World} {B : Nat} {S : Nat → Prop} (h : ∀ o, o < 30 → o ≠ 2 → o ≠ 3 → w.cell? ⟨B, o, none⟩ = some (.slice none 0 0)) (hk : Only S w w') (hs : ¬ S B) : ∀ o, o < 30 → o ≠ 2 → o ≠ 3 → w'.cell? ⟨B, o, none⟩ = some (.slice none 0 0) :=
  fun o h1 h2 h3 => (hk.cell (p := ⟨B, o, none⟩) (lt_of_cell (h o h1 h2 h3)) hs).trans (h o h1 h2 h3)

set_option maxRecDepth 100000 in
set_option maxHeartbeats 8000000 in
theorem apart_any {K : Nat → Prop} {w : World} {B : Nat} {L : List (List Int)} (h : Is K w B L) (hL : L.length ≤ 1000) (hl : ∀ l ∈ L, l.length ≤ 100000) :
    Calls Tryz.prog 22 #[.pointer (some ⟨B, 0, none⟩)] w fun e w' => e = .returned (.bool true) ∧ Only K w w' := by
  have hst := still_any h hL (fun l q => Nat.le_trans (hl l q) (by omega))
  obtain ⟨vi, vw, Z, h, rfl, hm⟩ := h
  rw [List.length_map] at hL
  have hl2 : Hid (∀ z ∈ Z, z.l.length ≤ 100000) := hide (fun z hz => hl _ (List.mem_map.2 ⟨z, hz, rfl⟩))
  have HR := hide h.rest
  have HBK := hide h
  clear h hm hl
  go_enter Tryz.func22, Tryz.ntmps22
  go_wp2_with fail
  refine (stillTexts_nil B _ (HR.out 0 (by omega) (by omega) (by omega))).mono ?_
  rintro e w' ⟨rfl, rfl⟩
  go_wp2_with fail
  refine hst.mono ?_
  rintro e w1 ⟨rfl, hlk1⟩
  clear hst
  have HB1 := hide (HBK.out.like hlk1)
  have HR1 := hide HB1.out.rest
  have o1 : Only K w w1 := hlk1.only K
  clear hlk1 HR
  go_wp2_with fail
  refine (stillNums_nil B _ (HR1.out 4 (by omega) (by omega) (by omega))).mono ?_
  rintro e w' ⟨rfl, rfl⟩
  go_wp2_with fail
  refine (stillSpans_nil B _ (HR1.out 6 (by omega) (by omega) (by omega))).mono ?_
  rintro e w' ⟨rfl, rfl⟩
  go_wp2_with fail
  refine (stillLocks_nil B _ (HR1.out 8 (by omega) (by omega) (by omega))).mono ?_
  rintro e w' ⟨rfl, rfl⟩
  go_wp2_with fail
  refine (stillImages_nil B _ (HR1.out 10 (by omega) (by omega) (by omega))).mono ?_
  rintro e w' ⟨rfl, rfl⟩
  go_wp2_with fail
  refine (stillRecords_nil B _ (HR1.out 12 (by omega) (by omega) (by omega))).mono ?_
  rintro e w' ⟨rfl, rfl⟩
  go_wp2_with fail
  refine (stillPackets_nil B _ (HR1.out 14 (by omega) (by omega) (by omega))).mono ?_
  rintro e w' ⟨rfl, rfl⟩
  go_wp2_with fail
  refine (stillFrames_nil B _ (HR1.out 16 (by omega) (by omega) (by omega))).mono ?_
  rintro e w' ⟨rfl, rfl⟩
  go_wp2_with fail
  refine (stillWaits_nil B _ (HR1.out 18 (by omega) (by omega) (by omega))).mono ?_
  rintro e w' ⟨rfl, rfl⟩
  go_wp2_with fail
  refine (stillRevokes_nil B _ (HR1.out 20 (by omega) (by omega) (by omega))).mono ?_
  rintro e w' ⟨rfl, rfl⟩
  go_wp2_with fail
  refine (stillEntries_nil B _ (HR1.out 22 (by omega) (by omega) (by omega))).mono ?_
  rintro e w' ⟨rfl, rfl⟩
  go_wp2_with fail
  refine (stillParts_nil B _ (HR1.out 24 (by omega) (by omega) (by omega))).mono ?_
  rintro e w' ⟨rfl, rfl⟩
  go_wp2_with fail
  refine (stillMsgs_nil B _ (HR1.out 26 (by omega) (by omega) (by omega))).mono ?_
  rintro e w' ⟨rfl, rfl⟩
  go_wp2_with fail
  refine (stillSteps_nil B _ (HR1.out 28 (by omega) (by omega) (by omega))).mono ?_
  rintro e w' ⟨rfl, rfl⟩
  go_wp2_with fail
  refine (putRecords_nil B _ (HR1.out 12 (by omega) (by omega) (by omega))).mono ?_
  rintro e w' ⟨rfl, rfl⟩
  go_wp2_with fail
  refine (putMsgs_nil B _ (HR1.out 26 (by omega) (by omega) (by omega))).mono ?_
  rintro e w' ⟨rfl, rfl⟩
  go_wp2_with fail
  refine (putSteps_nil B _ (HR1.out 28 (by omega) (by omega) (by omega))).mono ?_
  rintro e w' ⟨rfl, rfl⟩
  go_wp2_with fail
  refine (putTexts_nil B _ (HR1.out 0 (by omega) (by omega) (by omega))).mono ?_
  rintro e w' ⟨rfl, rfl⟩
  go_wp2_with fail
  refine (put_any HB1.out hL (fun z hz => Nat.le_trans (hl2.out z hz) (by omega))).mono ?_
  rintro e w2 ⟨rfl, hb2, ob2⟩
  have o2 : Only K w w2 := o1.trans ob2
  have HB2 := hide hb2
  have HR2 := hide hb2.rest
  clear hb2 ob2 o1 HR1 HB1
  go_wp2_with fail
  refine (putNums_nil B _ (HR2.out 4 (by omega) (by omega) (by omega))).mono ?_
  rintro e w' ⟨rfl, rfl⟩
  go_wp2_with fail
  refine (putSpans_nil B _ (HR2.out 6 (by omega) (by omega) (by omega))).mono ?_
  rintro e w' ⟨rfl, rfl⟩
  go_wp2_with fail
  refine (putLocks_nil B _ (HR2.out 8 (by omega) (by omega) (by omega))).mono ?_
  rintro e w' ⟨rfl, rfl⟩
  go_wp2_with fail
  refine (putImages_nil B _ (HR2.out 10 (by omega) (by omega) (by omega))).mono ?_
  rintro e w' ⟨rfl, rfl⟩
  go_wp2_with fail
  refine (putPackets_nil B _ (HR2.out 14 (by omega) (by omega) (by omega))).mono ?_
  rintro e w' ⟨rfl, rfl⟩
  go_wp2_with fail
  refine (putFrames_nil B _ (HR2.out 16 (by omega) (by omega) (by omega))).mono ?_
  rintro e w' ⟨rfl, rfl⟩
  go_wp2_with fail
  refine (putWaits_nil B _ (HR2.out 18 (by omega) (by omega) (by omega))).mono ?_
  rintro e w' ⟨rfl, rfl⟩
  go_wp2_with fail
  refine (putRevokes_nil B _ (HR2.out 20 (by omega) (by omega) (by omega))).mono ?_
  rintro e w' ⟨rfl, rfl⟩
  go_wp2_with fail
  refine (putEntries_nil B _ (HR2.out 22 (by omega) (by omega) (by omega))).mono ?_
  rintro e w' ⟨rfl, rfl⟩
  go_wp2_with fail
  refine (putParts_nil B _ (HR2.out 24 (by omega) (by omega) (by omega))).mono ?_
  rintro e w' ⟨rfl, rfl⟩
  go_wp2_with fail
  refine (growTexts_nil B _ (HR2.out 0 (by omega) (by omega) (by omega))).mono ?_
  rintro e w' ⟨rfl, rfl⟩
  go_wp2_with fail
  have hl3 : ∀ z ∈ markZ Z.length Z, z.l.length ≤ 100000 ∧ True := fun z hz => by
    obtain ⟨i, hi⟩ := List.mem_iff_getElem?.1 hz
    have hil := (List.getElem?_eq_some_iff.1 hi).1
    rw [length_markZ] at hil
    obtain ⟨z0, hz0⟩ := get_lt hil
    rw [markZ_get _ _ hz0, if_pos hil] at hi
    cases hi
    exact ⟨by simpa using hl2.out z0 (List.mem_of_getElem? hz0), trivial⟩
  have hmk : ∀ i z, (markZ Z.length Z)[i]? = some z → z.l = marks i 0 z.l.length := fun i z hi => by
    have hil := (List.getElem?_eq_some_iff.1 hi).1
    rw [length_markZ] at hil
    obtain ⟨z0, hz0⟩ := get_lt hil
    rw [markZ_get _ _ hz0, if_pos hil] at hi
    cases hi
    simp
  have HM := hide hmk
  refine (grow_any HB2.out (by simpa using hL) (fun z hz => (hl3 z hz).1) hmk).mono ?_
  rintro e w3 ⟨gv, G, rfl, hG⟩
  rw [length_markZ] at hG
  have HL3 := hide hl3
  have hnB : ¬ ahead (markZ Z.length Z) Z.length B := fun ⟨i, z, _, hz, q⟩ => HB2.out.neB (p := z.v.ownBlock) (by simp only [List.mem_cons, List.mem_flatMap]; exact .inr (.inr ⟨z, List.mem_of_getElem? hz, by simp⟩)) q
  have ho3 := hG.only
  have HR3 := hide (rest_only HR2.out ho3 hnB)
  have o3 : Only K w w3 := o2.trans (ho3.mono fun b _ ⟨i, z, _, hz, q⟩ => HB2.out.kV (List.mem_of_getElem? hz) b q)
  have hci : w3.cell? ⟨B, 2, none⟩ = some vi := (ho3.cell (p := ⟨B, 2, none⟩) (HB2.out.klt B HB2.out.kB) hnB).trans HB2.out.ci
  have hri := ownsRow_only HB2.out.ri ho3 (fun b e ⟨i, z, _, hz, q⟩ => HB2.out.neI (p := z.v.ownBlock) (by simp only [List.mem_cons, List.mem_flatMap]; exact .inr ⟨z, List.mem_of_getElem? hz, by simp⟩) e q)
  rw [length_markZ] at hri
  have HG := hide hG
  clear hmk hl3 ho3 hnB hG o2 HR2 HB2
  go_wp2_with fail
  refine (growNums_nil B _ (HR3.out 4 (by omega) (by omega) (by omega))).mono ?_
  rintro e w' ⟨rfl, rfl⟩
  go_wp2_with fail
  refine (growSpans_nil B _ (HR3.out 6 (by omega) (by omega) (by omega))).mono ?_
  rintro e w' ⟨rfl, rfl⟩
  go_wp2_with fail
  refine (growLocks_nil B _ (HR3.out 8 (by omega) (by omega) (by omega))).mono ?_
  rintro e w' ⟨rfl, rfl⟩
  go_wp2_with fail
  refine (growImages_nil B _ (HR3.out 10 (by omega) (by omega) (by omega))).mono ?_
  rintro e w' ⟨rfl, rfl⟩
  go_wp2_with fail
  refine (growRecords_nil B _ (HR3.out 12 (by omega) (by omega) (by omega))).mono ?_
  rintro e w' ⟨rfl, rfl⟩
  go_wp2_with fail
  refine (growPackets_nil B _ (HR3.out 14 (by omega) (by omega) (by omega))).mono ?_
  rintro e w' ⟨rfl, rfl⟩
  go_wp2_with fail
  refine (growFrames_nil B _ (HR3.out 16 (by omega) (by omega) (by omega))).mono ?_
  rintro e w' ⟨rfl, rfl⟩
  go_wp2_with fail
  refine (growWaits_nil B _ (HR3.out 18 (by omega) (by omega) (by omega))).mono ?_
  rintro e w' ⟨rfl, rfl⟩
  go_wp2_with fail
  refine (growRevokes_nil B _ (HR3.out 20 (by omega) (by omega) (by omega))).mono ?_
  rintro e w' ⟨rfl, rfl⟩
  go_wp2_with fail
  refine (growEntries_nil B _ (HR3.out 22 (by omega) (by omega) (by omega))).mono ?_
  rintro e w' ⟨rfl, rfl⟩
  go_wp2_with fail
  refine (growParts_nil B _ (HR3.out 24 (by omega) (by omega) (by omega))).mono ?_
  rintro e w' ⟨rfl, rfl⟩
  go_wp2_with fail
  refine (growMsgs_nil B _ (HR3.out 26 (by omega) (by omega) (by omega))).mono ?_
  rintro e w' ⟨rfl, rfl⟩
  go_wp2_with fail
  refine (growSteps_nil B _ (HR3.out 28 (by omega) (by omega) (by omega))).mono ?_
  rintro e w' ⟨rfl, rfl⟩
  have hc0 := HR3.out 0 (by omega) (by omega) (by omega)
  obtain ⟨ga, gc, rfl⟩ := own_shape HG.out.row
  go_wp2_with fail
  refine (markedTexts_nil _).mono ?_
  rintro e w' ⟨rfl, rfl⟩
  go_wp2_with fail
  refine (markedTexts_nil _).mono ?_
  rintro e w' ⟨rfl, rfl⟩
  go_wp2_with fail
  clear hc0
  refine (marked_any (N := fun i => ((markZ Z.length Z)[i]?.map fun z => z.l.length + 72).getD 0) HG.out.row hL (fun i g hg => ?_) (fun i hi => ?_)).mono ?_
  · obtain ⟨z, hz⟩ := get_lt (Z := markZ Z.length Z) (i := i) (by have := (List.getElem?_eq_some_iff.1 hg).1; have := HG.out.len; simp; omega)
    rw [hz]
    exact Has.own (HG.out.g i z g hz hg).1
  · obtain ⟨z, hz⟩ := get_lt (Z := markZ Z.length Z) (i := i) (by simpa using hi)
    rw [hz]
    have := (HL3.out z (List.mem_of_getElem? hz)).1
    simp only [Option.map_some, Option.getD_some]
    omega
  rintro e w4 ⟨rfl, ob4⟩
  have hci4 := (ob4.cell (p := ⟨B, 2, none⟩) (lt_of_cell hci) (fun q => q)).trans hci
  have hri4 := ownsRow_only hri ob4 (fun _ _ q => q)
  have HR4 := hide (rest_only HR3.out ob4 (fun q => q))
  have o4 : Only K w w4 := o3.trans (ob4.mono fun _ _ q => q.elim)
  obtain ⟨ia, ic, rfl⟩ := own_shape hri4
  clear hci hri HR3 o3
  go_wp2_with fail
  refine (marked_any (N := fun i => ((markZ Z.length Z)[i]?.map fun z => z.l.length).getD 0) hri4 hL (fun i g hg => ?_) (fun i hi => ?_)).mono ?_
  · obtain ⟨z, hz⟩ := get_lt (Z := markZ Z.length Z) (i := i) (by have := (List.getElem?_eq_some_iff.1 hg).1; simpa using this)
    rw [List.getElem?_map, hz] at hg
    cases hg
    rw [hz]
    exact (HG.out.z i z (by simpa using (List.getElem?_eq_some_iff.1 hz).1) hz).only ob4 (fun _ _ q => q)
  · obtain ⟨z, hz⟩ := get_lt (Z := markZ Z.length Z) (i := i) (by simpa using hi)
    rw [hz]
    have := (HL3.out z (List.mem_of_getElem? hz)).1
    simp only [Option.map_some, Option.getD_some]
    omega
  rintro e w5 ⟨rfl, ob5⟩
  have HR5 := hide (rest_only HR4.out ob5 (fun q => q))
  have o5 : Only K w w5 := o4.trans (ob5.mono fun _ _ q => q.elim)
  clear hci4 hri4 HR4 o4 ob4 ob5 HG
  have hc4 := HR5.out 4 (by omega) (by omega) (by omega)
  have hc6 := HR5.out 6 (by omega) (by omega) (by omega)
  have hc8 := HR5.out 8 (by omega) (by omega) (by omega)
  have hc10 := HR5.out 10 (by omega) (by omega) (by omega)
  have hc12 := HR5.out 12 (by omega) (by omega) (by omega)
  have hc14 := HR5.out 14 (by omega) (by omega) (by omega)
  have hc16 := HR5.out 16 (by omega) (by omega) (by omega)
  have hc18 := HR5.out 18 (by omega) (by omega) (by omega)
  have hc20 := HR5.out 20 (by omega) (by omega) (by omega)
  have hc22 := HR5.out 22 (by omega) (by omega) (by omega)
  have hc24 := HR5.out 24 (by omega) (by omega) (by omega)
  have hc26 := HR5.out 26 (by omega) (by omega) (by omega)
  have hc28 := HR5.out 28 (by omega) (by omega) (by omega)
  go_wp2_with fail
  refine (markedNums_nil _).mono ?_
  rintro e w' ⟨rfl, rfl⟩
  go_wp2_with fail
  refine (markedNums_nil _).mono ?_
  rintro e w' ⟨rfl, rfl⟩
  go_wp2_with fail
  refine (markedSpans_nil _).mono ?_
  rintro e w' ⟨rfl, rfl⟩
  go_wp2_with fail
  refine (markedSpans_nil _).mono ?_
  rintro e w' ⟨rfl, rfl⟩
  go_wp2_with fail
  refine (markedLocks_nil _).mono ?_
  rintro e w' ⟨rfl, rfl⟩
  go_wp2_with fail
  refine (markedLocks_nil _).mono ?_
  rintro e w' ⟨rfl, rfl⟩
  go_wp2_with fail
  refine (markedImages_nil _).mono ?_
  rintro e w' ⟨rfl, rfl⟩
  go_wp2_with fail
  refine (markedImages_nil _).mono ?_
  rintro e w' ⟨rfl, rfl⟩
  go_wp2_with fail
  refine (markedRecords_nil _).mono ?_
  rintro e w' ⟨rfl, rfl⟩
  go_wp2_with fail
  refine (markedRecords_nil _).mono ?_
  rintro e w' ⟨rfl, rfl⟩
  go_wp2_with fail
  refine (markedPackets_nil _).mono ?_
  rintro e w' ⟨rfl, rfl⟩
  go_wp2_with fail
  refine (markedPackets_nil _).mono ?_
  rintro e w' ⟨rfl, rfl⟩
  go_wp2_with fail
  refine (markedFrames_nil _).mono ?_
  rintro e w' ⟨rfl, rfl⟩
  go_wp2_with fail
  refine (markedFrames_nil _).mono ?_
  rintro e w' ⟨rfl, rfl⟩
  go_wp2_with fail
  refine (markedWaits_nil _).mono ?_
  rintro e w' ⟨rfl, rfl⟩
  go_wp2_with fail
  refine (markedWaits_nil _).mono ?_
  rintro e w' ⟨rfl, rfl⟩
  go_wp2_with fail
  refine (markedRevokes_nil _).mono ?_
  rintro e w' ⟨rfl, rfl⟩
  go_wp2_with fail
  refine (markedRevokes_nil _).mono ?_
  rintro e w' ⟨rfl, rfl⟩
  go_wp2_with fail
  refine (markedEntries_nil _).mono ?_
  rintro e w' ⟨rfl, rfl⟩
  go_wp2_with fail
  refine (markedEntries_nil _).mono ?_
  rintro e w' ⟨rfl, rfl⟩
  go_wp2_with fail
  refine (markedParts_nil _).mono ?_
  rintro e w' ⟨rfl, rfl⟩
  go_wp2_with fail
  refine (markedParts_nil _).mono ?_
  rintro e w' ⟨rfl, rfl⟩
  go_wp2_with fail
  refine (markedMsgs_nil _).mono ?_
  rintro e w' ⟨rfl, rfl⟩
  go_wp2_with fail
  refine (markedMsgs_nil _).mono ?_
  rintro e w' ⟨rfl, rfl⟩
  go_wp2_with fail
  refine (markedSteps_nil _).mono ?_
  rintro e w' ⟨rfl, rfl⟩
  go_wp2_with fail
  refine (markedSteps_nil _).mono ?_
  rintro e w' ⟨rfl, rfl⟩
  go_wp2_with fail
  go_ret
  exact ⟨rfl, o5⟩

end BK
end Go.Proofs.YtdgnfdheofacgaaGreat
