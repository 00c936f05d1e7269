/- HeapPlays: the walk of the statement. -/
import Derived.Test.YtmneilbfpomobaaGreatPi
import Derived.Test.YtmneilbfpomobaaGreatAlive4
import Derived.Test.YtmneilbfpomobaaGreatList
import Derived.Deep.CutBlock
import Derived.Deep.DeepCutAuto
import Derived.Test.YtmneilbfpomobaaGreatArgs
namespace Go.Proofs.YtmneilbfpomobaaGreat
open Go.RowKit
namespace HP

/-- the operations that came in -/
def ArgRow (w : World) (a : Option Addr) (len : Nat) : Prop := ∀ i, i < len → ∃ b off x y z, a = some ⟨b, off, none⟩ ∧ w.cell? ⟨b, off + i * 3, none⟩ = some (.int .i64 x) ∧ w.cell? ⟨b, off + i * 3 + 1, none⟩ = some (.int .i64 y) ∧ w.cell? ⟨b, off + i * 3 + 2, none⟩ = some (.int .i64 z)

/-- What stands behind the switch. -/
def Mid (w wx : World) (c r B j bo : Nat) (z : Int) : Prop := ∃ X last L F G K, PI w wx c r B X last X last L F G K ∧ X.length ≤ j + 1 ∧ 0 ≤ last ∧ last ≤ j + 1 ∧ L.length = j ∧ (∀ l ∈ L, l.length ≤ 1000) ∧ wx.cell? ⟨bo, 2, none⟩ = some (.int .i64 z)

set_option maxRecDepth 100000 in
set_option maxHeartbeats 4000000 in
theorem plays_main (zero : Bool) (a1 : Option Addr) (len1 cap1 : Nat) (w : World) (t1 : ArgRow w a1 len1) (h3 : len1 ≤ 150) :
    Calls Tryz.prog 3 #[.bool zero, .slice a1 len1 cap1] w fun e w' => e = .returned (.bool true) ∧ Below w.heap.size w w' := by
  have g3 : ¬ 150 < (len1 : Int) := by omega
  go_enter Tryz.func3, Tryz.ntmps3
  go_wp2_with fail
  refine (HI.new_any w).mono ?_
  rintro e w1 ⟨c0, F0, rfl, h0, o0, hF0⟩
  go_upto_if 31 with fail
  have hr0 := RH.made w1 29
  have h01 := h0.kept (Only.alloc (fun _ => False) w1 (.cells #[.slice none 0 0, .int .i64 0] 29)) (fun _ _ q => q)
  have o01 : Only (fun _ => False) w (w1.alloc (.cells #[.slice none 0 0, .int .i64 0] 29)) := o0.trans (Only.alloc _ w1 _)
  have hs0 := o0.size
  have hF0w : ∀ b, F0 b → b ≠ w1.heap.size := fun b q e => by have := h0.flt b q; omega
  clear h0 o0
  go_cut [5] from 32 to 33 (fun s5 wx => ∃ c F, s5 = .pointer (some ⟨c, 0, none⟩) ∧ HI.Is F wx c [] 0 ∧ (∀ b, F b → b ≠ w1.heap.size) ∧ (∀ b, F b → w.heap.size ≤ b) ∧ Only (fun _ => False) (w1.alloc (.cells #[.slice none 0 0, .int .i64 0] 29)) wx)
  case first =>
    generalize (w1.alloc (.cells #[.slice none 0 0, .int .i64 0] 29)) = w2 at *
    obtain ⟨m1, m2⟩ := HeapIs.made (V := HI.V) (E := 70) (0 : Int) w2 33
    have hs2 := o01.size
    cases zero
    · go_wp2_with fail
      go_meet
      exact ⟨_, F0, rfl, h01, hF0w, hF0, Only.refl _ _⟩
    · go_wp2_with fail
      go_meet
      exact ⟨_, _, rfl, m1, fun b q e => (by obtain ⟨v, hv⟩ := hr0; have := hv.glt _ rfl; omega), fun b q => by omega, m2⟩
  case rest =>
    obtain ⟨c, F, rfl, hF, hFr, hFn, oc⟩ := hcut
    have hr1 := hr0.kept oc (fun _ _ q => q)
    have oc1 : Only (fun _ => False) w wc := o01.trans oc
    clear hr0 h01 o01 hF0w oc
    go_wp2_with fail
    obtain ⟨B, hB⟩ : ∃ B, B = wc.heap.size := ⟨_, rfl⟩
    have p0 : PIs w (wc.alloc (.cells nils30 51)) c w1.heap.size B 0 := by
      obtain ⟨v, hv⟩ := hr1
      have hrl := hv.glt _ rfl
      have hsc := oc1.size
      have hkm := BK.made wc 51
      rw [← hB] at hkm
      have oa := Only.alloc (fun _ => False) wc (.cells nils30 51)
      refine ⟨[], 0, [], F, fun b => b = w1.heap.size, fun b => b = B, ⟨hF.kept oa (fun _ _ q => q), ⟨v, hv.kept oa (fun _ _ q => q)⟩, hkm, fun b q => by simp; omega, fun b q => hFr b q, fun b q e => by have := hF.flt b q; omega, fun b q e => by omega, hFn, fun b q => by omega, fun b q => by omega, new_below (oc1.below (Nat.le_refl _) (fun _ q => q.elim)) oa (fun _ q => q.elim)⟩, by simp, by omega, by omega, rfl, by simp⟩
    have p1 : PIs w (wc.alloc (.cells #[Value.slice none 0 0, .slice none 0 0, .slice none 0 0, .slice none 0 0, .slice none 0 0, .slice none 0 0, .slice none 0 0, .slice none 0 0, .slice none 0 0, .slice none 0 0, .slice none 0 0, .slice none 0 0, .slice none 0 0, .slice none 0 0, .slice none 0 0, .slice none 0 0, .slice none 0 0, .slice none 0 0, .slice none 0 0, .slice none 0 0, .slice none 0 0, .slice none 0 0, .slice none 0 0, .slice none 0 0, .slice none 0 0, .slice none 0 0, .slice none 0 0, .slice none 0 0, .slice none 0 0, .slice none 0 0] 51)) c w1.heap.size B 0 := p0
    rw [← hB]
    clear hr1 hF hFr hFn oc1 hs0 p0 hB hF0
    generalize w1.heap.size = r at *
    generalize (wc.alloc (.cells #[Value.slice none 0 0, .slice none 0 0, .slice none 0 0, .slice none 0 0, .slice none 0 0, .slice none 0 0, .slice none 0 0, .slice none 0 0, .slice none 0 0, .slice none 0 0, .slice none 0 0, .slice none 0 0, .slice none 0 0, .slice none 0 0, .slice none 0 0, .slice none 0 0, .slice none 0 0, .slice none 0 0, .slice none 0 0, .slice none 0 0, .slice none 0 0, .slice none 0 0, .slice none 0 0, .slice none 0 0, .slice none 0 0, .slice none 0 0, .slice none 0 0, .slice none 0 0, .slice none 0 0, .slice none 0 0] 51)) = w2 at *
    go_loopw [8] (fun i wr => ∃ j : Nat, j ≤ len1 ∧ i = .int .i64 j ∧ PIs w wr c r B j) (fun i _ => len1 - (intOf i).toNat)
    case atStart => exact ⟨0, Nat.zero_le _, rfl, p1⟩
    case round =>
      clear p1
      obtain ⟨j, hj, rfl, hp⟩ := hrel
      by_cases hlt : j < len1
      · obtain ⟨b, off, x, y, z, rfl, c0', c1', c2'⟩ := t1 j hlt
        obtain ⟨X, last, L, F, G, K, hPI, hX, hl0, hl1, hL, hLl⟩ := hp
        have d0 := (hPI.below.cell (p := ⟨b, off + j * 3, none⟩) (lt_of_cell c0')).trans c0'
        have d1 := (hPI.below.cell (p := ⟨b, off + j * 3 + 1, none⟩) (lt_of_cell c1')).trans c1'
        have d2 := (hPI.below.cell (p := ⟨b, off + j * 3 + 2, none⟩) (lt_of_cell c2')).trans c2'
        have hjn : (j : Int) < len1 := by omega
        have HPI := hide hPI
        have HL := hide hL
        have HLl := hide hLl
        clear c0' c1' c2' hPI hL hLl
        go_upto_block 2 with fail
        obtain ⟨bo, hbo⟩ : ∃ bo, bo = wr.heap.size := ⟨_, rfl⟩
        have e0 : (wr.alloc (.cells #[.int .i64 x, .int .i64 y, .int .i64 z] 53)).cell? ⟨bo, 0, none⟩ = some (.int .i64 x) := by rw [hbo, World.cell?_alloc_new]; rfl
        have e1 : (wr.alloc (.cells #[.int .i64 x, .int .i64 y, .int .i64 z] 53)).cell? ⟨bo, 1, none⟩ = some (.int .i64 y) := by rw [hbo, World.cell?_alloc_new]; rfl
        have e2 : (wr.alloc (.cells #[.int .i64 x, .int .i64 y, .int .i64 z] 53)).cell? ⟨bo, 2, none⟩ = some (.int .i64 z) := by rw [hbo, World.cell?_alloc_new]; rfl
        have hbF : ∀ b, F b → b ≠ bo := fun b q => by have := HPI.out.h.flt b q; omega
        have hbG : ∀ b, G b → b ≠ bo := fun b q => by have := HPI.out.glt b q; omega
        have hP1 := HPI.out.only (Only.alloc (fun _ => False) wr (.cells #[.int .i64 x, .int .i64 y, .int .i64 z] 53))
        have hbl : bo < (wr.alloc (.cells #[.int .i64 x, .int .i64 y, .int .i64 z] 53)).heap.size := by simp; omega
        rw [← hbo]
        have HBO := hide hbo
        clear hbo d0 d1 d2
        generalize (wr.alloc (.cells #[.int .i64 x, .int .i64 y, .int .i64 z] 53)) = w3 at *
        have HP1 := hide hP1
        have HBF := hide hbF
        have HBG := hide hbG
        clear hP1 hbF hbG
        go_cut [10, 11, 12, 13, 14] from 50 to 132 (fun s10 _ _ _ _ wx => s10 = .bool true ∧ Mid w wx c r B j bo z)
        case first =>
          clear t1
          by_cases hx1 : x = 1
          · as_aux_lemma =>
            subst hx1
            go_wp2_with fail
            go_region_held3 (fun w' => w'.cell? ⟨bo, 1, none⟩ = some (.int .i64 y) ∧ w'.cell? ⟨bo, 2, none⟩ = some (.int .i64 z)) (first | go_keep | exact ⟨k1, k2⟩ | exact ⟨m1, m2⟩)
              (first
                | (go_at_call 6; refine (HI.put_any (HP1.out.like (w' := w3.drew) ⟨rfl, rfl, rfl, rfl⟩).h (by omega) hl0 (by omega) _ _).mono ?_; rintro e w4 ⟨F4, rfl, h4, o4, hF4⟩; have k1 := (o4.cell (p := ⟨bo, 1, none⟩) hbl (fun q => HBF.out bo q rfl)).trans e1; have k2 := (o4.cell (p := ⟨bo, 2, none⟩) hbl (fun q => HBF.out bo q rfl)).trans e2; have hP4 := (HP1.out.like (w' := w3.drew) ⟨rfl, rfl, rfl, rfl⟩).stepH h4 o4 hF4; have hbl4 : bo < w4.heap.size := Nat.lt_of_lt_of_le hbl o4.size)
                | (go_at_call 7; refine (RH.put_any hP4.g (by omega) hl0 (by omega) _ _).mono ?_; rintro e w5 ⟨rfl, G5, h5, o5, hG5⟩; have m1 := (o5.cell (p := ⟨bo, 1, none⟩) hbl4 (fun q => HBG.out bo q rfl)).trans k1; have m2 := (o5.cell (p := ⟨bo, 2, none⟩) hbl4 (fun q => HBG.out bo q rfl)).trans k2; have hP5 := hP4.stepG h5 o5 hG5))
            all_goals
              go_wp2_with fail
              go_meet
              exact ⟨by simp, _, _, L, F4, G5, K, hP5, by rw [insW_length]; omega, by omega, by omega, HL.out, HLl.out, m2⟩
          · have q1 : (x == 1) = false := by simp [hx1]
            clear hx1
            by_cases hx2 : x = 2
            · as_aux_lemma =>
              subst hx2
              go_wp2_with fail
              refine (HI.take_any HP1.out.h (by omega) _).mono ?_
              rintro e w4 ⟨rfl, h4, o4⟩
              have hP4 := HP1.out.stepH h4 o4 (fun b q => .inl q)
              have k1 := (o4.cell (p := ⟨bo, 1, none⟩) hbl (fun q => HBF.out bo q rfl)).trans e1
              have k2 := (o4.cell (p := ⟨bo, 2, none⟩) hbl (fun q => HBF.out bo q rfl)).trans e2
              have hbl4 : bo < w4.heap.size := Nat.lt_of_lt_of_le hbl o4.size
              obtain ⟨v, hv⟩ := hP4.g
              obtain ⟨va, vc, rfl⟩ := own_shape hv.row
              have hcl := hv.cl
              have HV := hide hv
              have HP4 := hide hP4
              clear hv hP4 h4 o4
              cases X with
              | nil =>
                have hm : PI w w4 c r B [] last [] last L F G K := HP4.out
                have HM := hide hm
                clear hm
                simp only [HI.takeV, List.length_nil] at hcl ⊢
                go_wp2_with fail
                go_quiet (fail)
                go_wp2_with fail
                go_meet
                exact ⟨rfl, [], last, L, F, G, K, HM.out.like (w' := w4.drewN nq) ⟨rfl, rfl, rfl, rfl⟩, by simp, hl0, by omega, HL.out, HLl.out, k2⟩
              | cons q0 X =>
                obtain ⟨g, cp, e, a0, _, a2⟩ := HV.out.at_ (k := 0) (by simp)
                cases e
                have a0' : w4.cell? ⟨g, 0, none⟩ = some (.int .i64 q0.at_) := a0
                have a2' : w4.cell? ⟨g, 2, none⟩ = some (.int .i64 q0.v) := a2
                clear a0 a2
                have hlen : (0 : Int) < (q0 :: X).length := by simp
                have hlen2 : 0 < (q0 :: X).length := by simp
                have hX2 : (q0 :: X).length ≤ j := hX
                have HQ := hide (show (HI.takeW (q0 :: X) y = if q0.at_ ≤ y then X else q0 :: X) from rfl)
                have HTV := hide (show (HI.takeV (q0 :: X) y = if q0.at_ ≤ y then .tuple #[.int .i64 q0.v, .bool true] else .tuple #[.int .i64 0, .bool false]) from rfl)
                by_cases hd : q0.at_ ≤ y
                · have hm : PI w w4 c r B X last (q0 :: X) last L F G K := by
                    have := HP4.out
                    rw [HQ.out, if_pos hd] at this; exact this
                  have HM := hide hm
                  have ht := HTV.out
                  rw [if_pos hd] at ht
                  rw [ht]
                  have hdd : decide (q0.at_ ≤ y) = true := by simp [hd]
                  obtain ⟨n, hn⟩ : ∃ n, n = (q0 :: X).length := ⟨_, rfl⟩
                  rw [← hn] at hcl hlen hlen2 hX2 HV
                  have HN := hide hn
                  clear hm ht hd hn HQ HTV HP4
                  generalize q0.at_ = qa at *
                  go_wp2_with fail
                  go_quiet (fail)
                  go_wp2_with fail
                  have hout := RH.out_any (HM.out.like (w' := w4.drewN nq) ⟨rfl, rfl, rfl, rfl⟩).g (by rw [← HN.out]; omega) (k := 0) (by rw [← HN.out]; exact hlen2)
                  rw [show ((0 : Nat) : Int) = 0 from rfl] at hout
                  refine hout.mono ?_
                  clear hout
                  rintro e w5 ⟨rfl, G5, h5, o5, hG5⟩
                  have hP5 := (HM.out.like (w' := w4.drewN nq) ⟨rfl, rfl, rfl, rfl⟩).stepG h5 o5 hG5
                  have m2 := (o5.cell (p := ⟨bo, 2, none⟩) hbl4 (fun q => HBG.out bo q rfl)).trans k2
                  have hXl : X.length ≤ j + 1 := by have := HN.out; simp at this; omega
                  clear h5 o5
                  go_wp2_with fail
                  go_meet
                  exact ⟨by simp, X, last, L, F, G5, K, hP5, hXl, hl0, by omega, HL.out, HLl.out, m2⟩
                · have hm : PI w w4 c r B (q0 :: X) last (q0 :: X) last L F G K := by
                    have := HP4.out
                    rw [HQ.out, if_neg hd] at this; exact this
                  have HM := hide hm
                  have ht := HTV.out
                  rw [if_neg hd] at ht
                  rw [ht]
                  have hdd : decide (q0.at_ ≤ y) = false := by simp [hd]
                  obtain ⟨n, hn⟩ : ∃ n, n = (q0 :: X).length := ⟨_, rfl⟩
                  rw [← hn] at hcl hlen hlen2 hX2 HV
                  have HN := hide hn
                  clear hm ht hd hn HQ HTV HP4
                  go_wp2_with fail
                  go_quiet (fail)
                  go_wp2_with fail
                  go_meet
                  exact ⟨rfl, q0 :: X, last, L, F, G, K, HM.out.like (w' := w4.drewN nq) ⟨rfl, rfl, rfl, rfl⟩, by rw [← HN.out]; omega, hl0, by omega, HL.out, HLl.out, k2⟩
            · as_aux_lemma =>
              have q2 : (x == 2) = false := by simp [hx2]
              clear hx2
              rcases idx_cases X y with ⟨k, hk, hi, hf, hid⟩ | ⟨hi, hf⟩
              · have hfind := RH.find_any HP1.out.g (by omega) y
                have hcan := HI.cancel_any HP1.out.h (by omega) y
                rw [hi] at hfind
                have hout : outW X y = X.eraseIdx k := by rw [← hid]; exact outW_at HP1.out.h.nodup hk
                rw [hf, hout] at hcan
                have HFI := hide hfind
                have HCA := hide hcan
                have hkk : (0 : Int) ≤ k := by omega
                clear hi hf hid hout hfind hcan
                go_wp2_with fail
                refine HFI.out.mono ?_
                rintro e w' ⟨rfl, rfl⟩
                go_wp2_with fail
                refine HCA.out.mono ?_
                rintro e w4 ⟨rfl, h4, o4⟩
                simp only [Option.isSome_some]
                have hP4 := HP1.out.stepH h4 o4 (fun b q => .inl q)
                have k2 := (o4.cell (p := ⟨bo, 2, none⟩) hbl (fun q => HBF.out bo q rfl)).trans e2
                have hbl4 : bo < w4.heap.size := Nat.lt_of_lt_of_le hbl o4.size
                have HP4 := hide hP4
                clear h4 o4 hP4
                go_wp2_with fail
                refine (RH.out_any HP4.out.g (by omega) hk).mono ?_
                rintro e w5 ⟨rfl, G5, h5, o5, hG5⟩
                have hP5 := HP4.out.stepG h5 o5 hG5
                have m2 := (o5.cell (p := ⟨bo, 2, none⟩) hbl4 (fun q => HBG.out bo q rfl)).trans k2
                have hel : (X.eraseIdx k).length ≤ j + 1 := by rw [List.length_eraseIdx, if_pos hk]; omega
                clear h5 o5
                go_wp2_with fail
                go_meet
                exact ⟨by simp, _, last, L, F, G5, K, hP5, hel, hl0, by omega, HL.out, HLl.out, m2⟩
              · have hfind := RH.find_any HP1.out.g (by omega) y
                have hcan := HI.cancel_any HP1.out.h (by omega) y
                rw [hi] at hfind
                rw [hf, outW_miss hf] at hcan
                have HFI := hide hfind
                have HCA := hide hcan
                clear hi hf hfind hcan
                go_wp2_with fail
                refine HFI.out.mono ?_
                rintro e w' ⟨rfl, rfl⟩
                go_wp2_with fail
                refine HCA.out.mono ?_
                rintro e w4 ⟨rfl, h4, o4⟩
                simp only [Option.isSome_none]
                have hP4 := HP1.out.stepH h4 o4 (fun b q => .inl q)
                have k2 := (o4.cell (p := ⟨bo, 2, none⟩) hbl (fun q => HBF.out bo q rfl)).trans e2
                clear h4 o4
                go_wp2_with fail
                go_meet
                exact ⟨by simp, X, last, L, F, G, K, hP4, by omega, hl0, by omega, HL.out, HLl.out, k2⟩
        case rest =>
          clear HP1 HBF HBG hbl e0 e1 e2 HPI HL HLl hX hl0 hl1 HBO w3
          obtain ⟨rfl, X, last, L, F, G, K, hP, hX, hl0, hl1, hL, hLl, e2⟩ := hcut
          have HL := hide hL
          have HLl := hide hLl
          have HP := hide hP
          obtain ⟨v, hv⟩ := hP.g
          obtain ⟨va, vc, rfl⟩ := own_shape hv.row
          have hcl := hv.cl
          have HV := hide hv
          have hat := HI.at_any hP.h z
          have hfi := RH.find_any hP.g (by omega) z
          have hfs := HI.first_any hP.h
          obtain ⟨n, hn⟩ : ∃ n, n = X.length := ⟨_, rfl⟩
          rw [← hn] at hcl hX
          have HN := hide hn
          have HXX := hide (show X.length ≤ j + 1 by omega)
          clear hv hP hL hLl hn t1
          obtain ⟨wo, hwo⟩ : ∃ wo : World, wo = wc := ⟨_, rfl⟩
          subst hwo
          rcases idx_cases X z with ⟨k, hk, hi, hf, hid⟩ | ⟨hi, hf⟩
          case' inl =>
            rw [hf] at hat
            dsimp only at hat
            rw [hi] at hfi
            have HAT := hide hat
            have HFI := hide hfi
            have HFS := hide hfs
            obtain ⟨g, cp, e, a0, a1, a2⟩ := HV.out.at_ hk
            rw [← HN.out] at e
            cases e
            clear a1 a2
            have a0' : wo.cell? ⟨g, k * 3, none⟩ = some (.int .i64 X[k].at_) := a0
            have hkn : (k : Int) < n := by have := HN.out; omega
            have hkn2 : k < n := by have := HN.out; omega
            have hk0 : (0 : Int) ≤ k := by omega
            clear a0 hi hf hid hat hfi hfs
            generalize X[k].at_ = ta at *
            clear hk
            go_wp2_with fail
            refine HAT.out.mono ?_
            rintro e w' ⟨rfl, rfl⟩
            go_wp2_with fail
            refine HFI.out.mono ?_
            rintro e w' ⟨rfl, rfl⟩
            go_wp2_with fail
          case' inr =>
            rw [hf] at hat
            dsimp only at hat
            rw [hi] at hfi
            have HAT := hide hat
            have HFI := hide hfi
            have HFS := hide hfs
            clear hi hf hat hfi hfs
            go_wp2_with fail
            refine HAT.out.mono ?_
            rintro e w' ⟨rfl, rfl⟩
            go_wp2_with fail
            refine HFI.out.mono ?_
            rintro e w' ⟨rfl, rfl⟩
            go_wp2_with fail
          all_goals
            refine HFS.out.mono ?_
            rintro e w5 ⟨rfl, hlk⟩
            have HP5 := hide (HP.out.like hlk)
            have hcl5 := (cell_of_heap hlk.heap ⟨r, 0, none⟩).trans hcl
            have HV5 := hide (HV.out.like hlk)
            clear HAT HFI HFS hcl HV HP e2 hlk
            rcases first_cases X with ⟨hf, h0⟩ | ⟨hpos, hf⟩
            case' inl =>
              rw [hf]
              clear hf
              obtain rfl : n = 0 := HN.out.trans h0
              clear h0
              first
                | (exfalso; omega)
                | go_wp2_with fail
            case' inr =>
              rw [hf]
              clear hf
              obtain ⟨g5, cp5, e, a0, a1, a2⟩ := HV5.out.at_ hpos
              rw [← HN.out] at e
              cases e
              have b0 : w5.cell? ⟨_, 0, none⟩ = some (.int .i64 X[0].at_) := a0
              have b2 : w5.cell? ⟨_, 2, none⟩ = some (.int .i64 X[0].v) := a2
              have hn0 : 0 < n := by have := HN.out; omega
              have hn1 : (0 : Int) < n := by omega
              clear a0 a1 a2
              generalize X[0].at_ = ta5 at *
              generalize X[0].v = tv5 at *
              clear hpos
              go_wp2_with fail
            all_goals as_aux_lemma =>
              clear hcl5
              have hcl6 := HV5.out.cl
              obtain ⟨m, hm⟩ : ∃ m, m = X.length := ⟨_, rfl⟩
              rw [← hm] at hcl6
              have hmj : m ≤ j + 1 := by have := HXX.out; omega
              have HM := hide hm
              clear hm HXX
              obtain ⟨wl, hwl⟩ : ∃ wl : World, wl = w5 := ⟨_, rfl⟩
              subst hwl
              have hrl : r < wl.heap.size := lt_of_cell hcl6
              go_loopw [21, 22] (fun v i wq => ∃ t : Nat, t ≤ m ∧ i = .int .i64 t ∧ wq.ownsRow wl.heap.size 3 1 v t (ints ((X.take t).map (·.v))) ∧ Only (fun b => wl.heap.size ≤ b) wl wq) (fun _ i _ => m - (intOf i).toNat)
              case atStart => exact ⟨0, Nat.zero_le _, rfl, World.ownsRow_nil _ _ _ _, Only.refl _ _⟩
              case round =>
                obtain ⟨t, ht, rfl, hrow, hoq⟩ := hrel
                have hclq := (hoq.cell (p := ⟨r, 0, none⟩) hrl (Nat.not_le.2 hrl)).trans hcl6
                have hsz := hoq.size
                by_cases hlt2 : t < m
                · have htX : t < X.length := by have := HM.out; omega
                  obtain ⟨g6, cp6, e, x0, x1, x2⟩ := HV5.out.at_ htX
                  clear x0 x1
                  rw [← HM.out] at e
                  have y2 : wr.cell? ⟨g6, t * 3 + 2, none⟩ = some (.int .i64 X[t].v) := (hoq.cell (p := ⟨g6, t * 3 + 2, none⟩) (lt_of_cell x2) (Nat.not_le.2 (lt_of_cell x2))).trans x2
                  clear x2
                  have htk : Hid (ints ((X.take (t + 1)).map (·.v)) = ints ((X.take t).map (·.v)) ++ [.int .i64 X[t].v]) := hide (by rw [List.take_succ_eq_append_getElem htX, List.map_append]; simp only [ints, List.map_append]; rfl)
                  have htm : (t : Int) < m := by omega
                  generalize X[t].v = xv at *
                  cases e
                  go_wp2_with (at_builtin; refine wpList_append_one rfl _ _ _ rfl wl.heap.size 3 (.int .i64 0) 8 BK.und1 BK.inf1 rfl _ _ _ rfl hrow _ _ rfl rfl (by omega) (by omega) hsz ?_; intro v' w7 hrow7 o7 hloc)
                  have o8 : Only (fun b => wl.heap.size ≤ b) wl w7 := hoq.trans (o7.mono fun b _ q => (hrow.lt b q).1)
                  rw [← htk.out] at hrow7
                  clear o7 hrow hoq hclq y2 hloc
                  go_wp2_with fail
                  go_roundw
                  case rel => exact ⟨t + 1, hlt2, by go_num, hrow7, o8⟩
                  case measure => simp [intOf]; omega
                · obtain rfl : t = m := by omega
                  have hP6 := HP5.out.new hoq (fun b q => q) HP5.out.h.flt HP5.out.glt HP5.out.k.klt HP5.out.below.size
                  rw [List.take_of_length_le (by rw [← HM.out]; exact Nat.le_refl _)] at hrow
                  have hlist := HI.list_any hP6.h (by rw [← HM.out]; omega)
                  have hmap : X.map (fun x => HI.V x.v) = ints (X.map (·.v)) := by simp [ints]
                  obtain ⟨zs, hzs⟩ : ∃ zs, zs = X.map (·.v) := ⟨_, rfl⟩
                  have hzl : zs.length = t := by rw [hzs, List.length_map]; exact HM.out.symm
                  rw [hmap, ← HM.out, ← hzs] at hlist
                  rw [← hzl] at hlist
                  rw [← hzs] at hrow
                  obtain ⟨xa, xc, rfl⟩ := own_shape hrow
                  have hrow2 : wr.ownsRow wl.heap.size 3 1 (.slice xa t xc) zs.length (ints zs) := by rw [hzl]; exact hrow
                  have HROW := hide hrow2
                  have HP6 := hide hP6
                  have HZL := hide hzl
                  have hll : zs.length ≤ 1000 := by omega
                  clear hrow hrow2 hP6 hoq hmap hzs hzl
                  go_wp2_with fail
                  clear hclq
                  refine hlist.mono ?_
                  clear hlist
                  rintro e w7 ⟨lv, rfl, hlv, o7⟩
                  have hP7 := HP6.out.only o7
                  have hROW7 := ownsRow_only HROW.out o7 (fun _ _ q => q)
                  have hltl : ∀ b, lv.ownBlock = some b → wr.heap.size ≤ b := fun b q => (hlv.lt b q).1
                  have hkeep := BK.ints_any hP7.k (by rw [HL.out]; omega) (row_lower hlv (Nat.zero_le _)) (by omega) (fun b q s => by have := hltl b q; have := HP6.out.k.klt b s; omega)
                  have hH7 := Has.own hlv
                  have hX7 := Has.own hROW7
                  have HP7 := hide hP7
                  obtain ⟨la, lc, rfl⟩ := own_shape hlv
                  have hsz7 := o7.size
                  have hrowlt : ∀ b, (Value.slice xa t xc).ownBlock = some b → wl.heap.size ≤ b := fun b q => (HROW.out.lt b q).1
                  clear hlv hROW7 hP7 o7
                  go_wp2_with fail
                  refine hkeep.mono ?_
                  clear hkeep
                  rintro e w8 ⟨rfl, K8, h8, o8, hK8⟩
                  have hP8 := HP7.out.stepK h8 o8 hK8 hltl HP6.out.h.flt HP6.out.glt HP6.out.below.size
                  have hsame := BK.same_any (hH7.only o8 (fun b q s => by have := hltl b q; have := HP6.out.k.klt b s; omega)) (hX7.only o8 (fun b q s => by have := hrowlt b q; have := HP5.out.k.klt b s; omega)) (by omega)
                  have HP8 := hide hP8
                  clear hP8 h8 o8 hH7 hX7 hK8 HP7 HROW hltl hrowlt
                  go_wp2_with fail
                  refine hsame.mono ?_
                  clear hsame
                  rintro e w9 ⟨rfl, q9, hq9⟩
                  have hP9 := HP8.out.like (w' := w9) (by rw [hq9]; exact ⟨rfl, rfl, rfl, rfl⟩)
                  have hlen9 := HI.len_any hP9.h
                  rw [← HM.out] at hlen9
                  have HP9 := hide hP9
                  clear hq9 hP9 HP8
                  go_wp2_with fail
                  refine hlen9.mono ?_
                  clear hlen9
                  rintro e w' ⟨rfl, rfl⟩
                  have hLn : (L ++ [zs]).length = j + 1 := by rw [List.length_append, HL.out]; rfl
                  have hLn2 : ∀ l ∈ L ++ [zs], l.length ≤ 1000 := fun l hl => by
                    rcases List.mem_append.1 hl with hl | hl
                    · exact HLl.out l hl
                    · rw [List.mem_singleton.1 hl]; exact hll
                  have HLn := hide hLn
                  have HLn2 := hide hLn2
                  clear hLn hLn2
                  go_wp2_with fail
                  go_roundw
                  case rel => exact ⟨j + 1, hlt, by go_num, X, last, L ++ [zs], F, G, K8, HP9.out, by rw [← HM.out]; exact hmj, hl0, by omega, HLn.out, HLn2.out⟩
                  case measure => simp [intOf]; omega
      · obtain rfl : j = len1 := by omega
        obtain ⟨X, last, L, F, G, K, hPI, hX, hl0, hl1, hL, hLl⟩ := hp
        have HLl := hide hLl
        have HL := hide hL
        clear hLl hL
        go_wp2_with fail
        refine (HI.alive_any _).mono ?_
        rintro e w3 ⟨rfl, hb⟩
        have hK3 := hPI.k.kept (Below.only hb) (fun b q => Nat.not_le.2 (hPI.k.klt b q))
        have hB3 := hPI.below.trans (hb.mono hPI.below.size)
        have kn := hPI.kn
        clear hPI hb
        go_wp2_with fail
        refine (BK.apart_any hK3 (by rw [HL.out]; omega) (fun l q => Nat.le_trans (HLl.out l q) (by omega))).mono ?_
        rintro e w4 ⟨rfl, o4⟩
        have hB4 := new_below hB3 o4 kn
        clear hK3 o4 hB3
        go_wp2_with fail
        go_ret
        exact ⟨rfl, hB4⟩

set_option maxRecDepth 100000 in
/-- The statement's walk. -/
theorem plays_walk (zero : Bool) (a1 : Option Addr) (len1 cap1 : Nat) {w : World} (t1 : ArgCells w a1 len1 3) :
    Calls Tryz.prog 3 #[.bool zero, .slice a1 len1 cap1] w fun e w' => e = .returned (.bool true) ∧ Below w.heap.size w w' := by
  by_cases h3 : 150 < (len1 : Int)
  · clear t1
    go_enter Tryz.func3, Tryz.ntmps3
    go_wp2_with fail
    refine (HI.alive_any _).mono ?_
    rintro e w3 ⟨rfl, hb⟩
    go_wp2_with fail
    go_ret
    exact ⟨rfl, hb⟩
  refine plays_main zero a1 len1 cap1 w (fun i hi => ?_) (by omega)
  obtain ⟨b, off, rfl, h⟩ := t1 i hi
  obtain ⟨x, hx, _⟩ := h 0 (by omega)
  obtain ⟨y, hy, _⟩ := h 1 (by omega)
  obtain ⟨z, hz, _⟩ := h 2 (by omega)
  exact ⟨b, off, x, y, z, rfl, hx, hy, hz⟩

end HP
end Go.Proofs.YtmneilbfpomobaaGreat
