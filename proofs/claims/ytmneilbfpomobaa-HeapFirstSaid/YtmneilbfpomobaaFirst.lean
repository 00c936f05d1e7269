/- HeapFirst: the walk of the statement. -/
import Derived.Test.YtmneilbfpomobaaAlive4
import Derived.Test.YtmneilbfpomobaaListS
import Derived.Test.YtmneilbfpomobaaSortS
import Derived.Laws.BytesString
import Derived.Laws.Cells
import Derived.Deep.RegionWith
namespace Go.Proofs.Ytmneilbfpomobaa
open Go.RowKit
namespace HS

theorem und37 : Try.prog.underlying 37 = some (.slice 5) := by kernel_rfl
theorem und5 : Try.prog.underlying 5 = some (.int .u8) := by kernel_rfl
theorem und9 : Try.prog.underlying 9 = some .string := by kernel_rfl
def two (x y : Int) : ByteArray := [x, y].foldl (fun r n => r.push (UInt8.ofNat n.toNat)) ByteArray.empty

theorem two_bytes (w : World) (g : Nat) (x y : Int) (c0 : w.cell? ⟨g, 0, none⟩ = some (.int .u8 x)) (c1 : w.cell? ⟨g, 1, none⟩ = some (.int .u8 y)) :
    (convert 37 9 (.slice (some ⟨g, 0, none⟩) 2 2)).run Try.prog w = .ok (.string (two x y)) w := by
  have hl := run_loadCells_list (P := Try.prog) (w := w) ⟨g, 0, none⟩ [.int .u8 x, .int .u8 y] (fun j v q => by
    match j, q with
    | 0, q => cases q; exact c0
    | 1, q => cases q; exact c1)
  have h := run_bytesToString (P := Try.prog) w ⟨g, 0, none⟩ 2 2 [x, y] hl
  exact (run_convert_bytes_string w 37 9 5 (some ⟨g, 0, none⟩) 2 2 und37 und5 und9).trans h

set_option maxRecDepth 100000 in
set_option maxHeartbeats 4000000 in
theorem first_main (a1 : Option Addr) (len1 cap1 : Nat) (z1 : List Int) (now : Int) (w : World) (t1 : IsRow .i64 w a1 len1 cap1 z1) (h3 : len1 ≤ 60) :
    Calls Try.prog 5 #[.slice a1 len1 cap1, .int .i64 now] w fun e w' => e = .returned (.bool true) ∧ Below w.heap.size w w' := by
  have g3 : ¬ 60 < (len1 : Int) := by omega
  go_enter Try.func5, Try.ntmps5
  go_wp2_with fail
  refine (new_any w).mono ?_
  rintro e w1 ⟨c, F0, rfl, h0, o0, hF0⟩
  have b0 := Below.then_only (Nat.le_refl _) (Below.refl _ _) o0 (fun b q => q.elim)
  clear o0
  go_wp2_with fail
  go_loopw [6] (fun i wr => ∃ (k : Nat) (W : List (Wt ByteArray)), k ≤ len1 ∧ i = .int .i64 k ∧ Below w.heap.size w wr ∧ Hid (W.length = k) ∧ ∃ F, (∀ b, F b → w.heap.size ≤ b) ∧ Is F wr c W k) (fun i _ => len1 - (intOf i).toNat)
  case atStart => exact ⟨0, [], Nat.zero_le _, rfl, b0, rfl, F0, hF0, h0⟩
  case round =>
    clear h0 b0 hF0
    obtain ⟨k, W, hk, rfl, b1, HL, F, hF, hS⟩ := hrel
    by_cases hlt : k < len1
    · obtain ⟨b, off, rfl, hcell⟩ := t1.at hlt
      obtain ⟨t, ht⟩ : ∃ t, t = z1.getD k 0 := ⟨_, rfl⟩
      have hc1 : wr.cell? ⟨b, off + k, none⟩ = some (.int .i64 t) := by
        rw [ht]
        exact (b1.cell (p := ⟨b, off + k, none⟩) (lt_of_cell hcell)).trans hcell
      obtain ⟨x, hx⟩ : ∃ x : Nat, x = k % 26 := ⟨_, rfl⟩
      obtain ⟨y, hy⟩ : ∃ y : Nat, y = k / 26 := ⟨_, rfl⟩
      obtain ⟨x2, hx2⟩ : ∃ x2 : Nat, x2 = 97 + x := ⟨_, rfl⟩
      obtain ⟨y2, hy2⟩ : ∃ y2 : Nat, y2 = 97 + y := ⟨_, rfl⟩
      have e1 : (k : Int).tmod 26 = (x : Int) := by
        rw [Int.tmod_eq_emod_of_nonneg (by omega), show (k : Int) % 26 = (x : Int) by omega]
      have e2 : IntKind.i64.wrap ((k : Int) / 26) = (y : Int) := by
        rw [show (k : Int) / 26 = (y : Int) by omega]
        exact IntWalk.i64_in _ ⟨by omega, by omega⟩
      have e3 : IntKind.i64.wrap (97 + (x : Int)) = (x2 : Int) := by
        rw [show 97 + (x : Int) = (x2 : Int) by omega]
        exact IntWalk.i64_in _ ⟨by omega, by omega⟩
      have e4 : IntKind.i64.wrap (97 + (y : Int)) = (y2 : Int) := by
        rw [show 97 + (y : Int) = (y2 : Int) by omega]
        exact IntWalk.i64_in _ ⟨by omega, by omega⟩
      have hx3 : x2 < 256 := by omega
      have hy3 : y2 < 256 := by omega
      clear hx hy hx2 hy2 ht hcell
      have hcv := fun W : World => two_bytes (W.alloc (.cells #[.int .u8 x2, .int .u8 y2] 5)) W.heap.size x2 y2 (World.cell?_alloc_new W _ _ 0) (World.cell?_alloc_new W _ _ 1)
      generalize two x2 y2 = s at hcv
      have hcv1 := hcv wr
      have hcv2 := hcv wr.drew
      have hcv3 : (convert 37 9 (.slice (some ⟨wr.heap.size, 0, none⟩) 2 2)).run Try.prog (wr.alloc (.cells #[.int .u8 x2, .int .u8 y2] 5)).drew = .ok (.string s) (wr.alloc (.cells #[.int .u8 x2, .int .u8 y2] 5)).drew := hcv wr.drew
      clear hcv
      have hu1 : IntKind.u8.wrap (x2 : Int) = (x2 : Int) := by
        have : IntKind.u8.wrap (x2 : Int) = (x2 : Int) % 256 := rfl
        omega
      have hu2 : IntKind.u8.wrap (y2 : Int) = (y2 : Int) := by
        have : IntKind.u8.wrap (y2 : Int) = (y2 : Int) % 256 := rfl
        omega
      have hc1a : (wr.alloc (.cells #[.int .u8 x2, .int .u8 y2] 5)).cell? ⟨b, off + k, none⟩ = some (.int .i64 t) := cell_alloc _ hc1
      have O1 : Hid (Only (fun _ => False) wr (wr.alloc (.cells #[.int .u8 x2, .int .u8 y2] 5)).drew) := hide ((Only.alloc _ _ _).trans (Only.drew _ _))
      have HWn : Hid (W.length ≤ 1000000) := hide (by rw [HL.out]; omega)
      go_wp2_with fail
      go_region_with (go_at_call 14; refine (put_any (hS.kept O1.out (fun _ _ q => q)) HWn.out (by omega) (by omega) t s).mono ?_; rintro e w2 ⟨F2, rfl, hS2, o2, hF2⟩)
      all_goals
        have b2 := Below.then_only (Nat.le_refl _) b1 ((O1.out.mono (fun _ _ q => q.elim)).trans o2) hF
        have hG2 : ∀ b, F2 b → w.heap.size ≤ b := fun b q => (hF2 b q).elim (hF b) (fun q => Nat.le_trans b1.size (Nat.le_trans O1.out.size q))
        have HN : Hid ((insW (⟨t, (k : Int) + 1, s⟩ : Wt ByteArray) W).length = k + 1) := hide (by rw [length_insW, HL.out])
        clear hS o2 hF b1 hF2 hcv1 hcv2 hcv3 O1 hc1a
        go_wp2_with fail
        go_roundw
        case rel => exact ⟨k + 1, _, hlt, by go_num, b2, HN, F2, hG2, by simpa using hS2⟩
        case measure => simp [intOf]; omega
    · obtain rfl : k = len1 := by omega
      clear hlt hk
      go_wp2_with fail
      go_loopw [7, 8, 9, 10, 11, 12, 13] (fun i _ _ _ _ _ _ wr => ∃ (j : Nat) (W : List (Wt ByteArray)), j ≤ k ∧ i = .int .i64 j ∧ Below w.heap.size w wr ∧ Hid (W.length + j = k) ∧ Is F wr c W k) (fun i _ _ _ _ _ _ _ => k + 1 - (intOf i).toNat)
      case atStart => exact ⟨0, W, Nat.zero_le _, rfl, b1, HL, hS⟩
      case round =>
        clear b1 HL hS
        obtain ⟨j, W, hj, rfl, b1, HL, hS⟩ := hrel
        by_cases hdue : ∃ x r, W = x :: r ∧ x.at_ ≤ now
        · obtain ⟨x, r, rfl, hle⟩ := hdue
          have hjk : j + 1 ≤ k := by have := HL.out; simp only [List.length_cons] at this; omega
          have HL2 : Hid (r.length + (j + 1) = k) := hide (by have := HL.out; simp only [List.length_cons] at this; omega)
          have hj2 : (j : Int) ≤ k := by omega
          have hst : (x.v.toList == x.v.toList) = true := by simp
          have hw : IntKind.i64.wrap (r.length : Int) = (r.length : Int) := IntWalk.i64_in _ ⟨by omega, by have := HL2.out; omega⟩
          have hne : ((r.length : Int) != (r.length : Int)) = false := by simp
          have ht1 : takeV (x :: r) now = .tuple #[.string x.v, .bool true] := by simp [takeV, hle]
          have ht2 : takeW (x :: r) now = r := by simp [takeW, hle]
          have HT1 := hide ht1
          have HT2 := hide ht2
          have HLn : Hid ((x :: r).length ≤ 1000000) := hide (by have := HL.out; omega)
          clear ht1 ht2 HL
          go_wp2_with fail
          refine (first_any hS).mono ?_
          rintro e w3 ⟨rfl, hl3⟩
          have hS3 := hS.kept (hl3.only (fun _ => False)) (fun _ _ q => q)
          have b3 := b1.trans ((hl3.only (fun _ => False)).below b1.size (fun _ q => q.elim))
          clear hS b1 hl3
          simp only [firstV]
          go_wp2_with fail
          refine (len_any hS3).mono ?_
          rintro e w4 ⟨rfl, rfl⟩
          rw [List.length_cons]
          go_wp2_with fail
          have hp := take_any hS3 HLn.out now
          rw [HT1.out, HT2.out] at hp
          refine hp.mono ?_
          clear hp
          rintro e w5 ⟨rfl, hS5, o5⟩
          have b5 := Below.then_only (Nat.le_refl _) b3 o5 hF
          clear hS3 b3 o5
          go_wp2_with fail
          refine (len_any hS5).mono ?_
          rintro e w6 ⟨rfl, rfl⟩
          go_wp2_with fail
          go_roundw
          case rel => exact ⟨j + 1, r, hjk, by go_num, b5, HL2, hS5⟩
          case measure => simp [intOf]; omega
        · have HD : Hid (∀ x r, W = x :: r → now < x.at_) := hide (fun x r e => by
            by_cases q : x.at_ ≤ now
            · exact absurd ⟨x, r, e, q⟩ hdue
            · omega)
          have hj2 : (j : Int) ≤ k := by omega
          clear hdue
          have HLn : Hid (W.length ≤ 1000000) := hide (by have := HL.out; omega)
          clear HL
          cases W
          case' nil =>
            have z0 : ((0 : Nat) : Int) = 0 := rfl
            go_wp2_with fail
            refine (first_any hS).mono ?_
            rintro e w3 ⟨rfl, hl3⟩
            have hS3 := hS.kept (hl3.only (fun _ => False)) (fun _ _ q => q)
            have b3 := b1.trans ((hl3.only (fun _ => False)).below b1.size (fun _ q => q.elim))
            clear hS b1 hl3
            simp only [firstV]
            go_wp2_with fail
            refine (len_any hS3).mono ?_
            rintro e w4 ⟨rfl, rfl⟩
            simp only [List.length_nil, z0]
            go_wp2_with fail
            refine (take_any hS3 (by simp) now).mono ?_
            rintro e w5 ⟨rfl, hS5, o5⟩
            have b5 := Below.then_only (Nat.le_refl _) b3 o5 hF
            simp only [takeV]
            simp only [takeW] at hS5
            clear hS3 b3 o5
            go_wp2_with fail
            refine (len_any hS5).mono ?_
            rintro e w6 ⟨rfl, rfl⟩
            simp only [List.length_nil, z0]
            go_wp2_with fail
            clear z0
            generalize ([] : List (Wt ByteArray)) = W at *
          case' cons x r =>
            have hlt := HD.out x r rfl
            have hd : decide (x.at_ ≤ now) = false := by simp; omega
            have hne : ((r.length : Int) + 1 != (r.length : Int) + 1) = false := by simp
            have ht1 : takeV (x :: r) now = .tuple #[.string ⟨#[]⟩, .bool false] := by simp [takeV, Int.not_le.2 hlt]
            have ht2 : takeW (x :: r) now = x :: r := by simp [takeW, Int.not_le.2 hlt]
            have HT1 := hide ht1
            have HT2 := hide ht2
            clear ht1 ht2 hlt
            go_wp2_with fail
            refine (first_any hS).mono ?_
            rintro e w3 ⟨rfl, hl3⟩
            have hS3 := hS.kept (hl3.only (fun _ => False)) (fun _ _ q => q)
            have b3 := b1.trans ((hl3.only (fun _ => False)).below b1.size (fun _ q => q.elim))
            clear hS b1 hl3
            simp only [firstV]
            go_wp2_with fail
            refine (len_any hS3).mono ?_
            rintro e w4 ⟨rfl, rfl⟩
            rw [List.length_cons]
            go_wp2_with fail
            have hp := take_any hS3 HLn.out now
            rw [HT1.out, HT2.out] at hp
            refine hp.mono ?_
            clear hp
            rintro e w5 ⟨rfl, hS5, o5⟩
            have b5 := Below.then_only (Nat.le_refl _) b3 o5 hF
            clear hS3 b3 o5
            go_wp2_with fail
            refine (len_any hS5).mono ?_
            rintro e w6 ⟨rfl, rfl⟩
            rw [List.length_cons]
            go_wp2_with fail
            clear HT1 HT2 hd hne
            generalize x :: r = W at *
          all_goals
            go_loopw [14, 15, 16, 17] (fun i _ _ _ wr => ∃ q : Nat, q ≤ W.length ∧ i = .int .i64 q ∧ Below w.heap.size w wr ∧ Is F wr c W k) (fun i _ _ _ _ => W.length - (intOf i).toNat)
            case atStart => exact ⟨0, Nat.zero_le _, rfl, b5, hS5⟩
            case round =>
              clear b5 hS5
              obtain ⟨q, hq, rfl, b5, hS5⟩ := hrel
              go_wp2_with fail
              refine (list_any hS5 HLn.out).mono ?_
              rintro e w7 ⟨v7, rfl, hrow, o7⟩
              obtain ⟨a7, c7, rfl⟩ := own_shape hrow
              have hS7 := hS5.kept o7 (fun _ _ q => q)
              have b7 := b5.trans (o7.below b5.size (fun _ q => q.elim))
              clear hrow o7 hS5 b5
              by_cases hlt : q < W.length
              · obtain ⟨x, r, rfl⟩ : ∃ x r, W = x :: r := by
                  cases W with
                  | nil => simp at hlt
                  | cons x r => exact ⟨x, r, rfl⟩
                have hq3 : q < 1000000 := by have := HLn.out; omega
                have hnow := HD.out x r rfl
                have hd : decide (x.at_ ≤ now) = false := by simp; omega
                have hql : (q : Int) < ((x :: r).length : Int) := by omega
                have hql2 : (q : Int) < (r.length : Int) + 1 := by simp only [List.length_cons] at hlt; omega
                clear hnow
                go_wp2_with fail
                refine (first_any hS7).mono ?_
                rintro e w8 ⟨rfl, hl8⟩
                have hS8 := hS7.kept (hl8.only (fun _ => False)) (fun _ _ q => q)
                have b8 := b7.trans ((hl8.only (fun _ => False)).below b7.size (fun _ q => q.elim))
                clear hS7 b7 hl8
                simp only [firstV]
                go_wp2_with fail
                go_roundw
                case rel => exact ⟨q + 1, hlt, by go_num, b8, hS8⟩
                case measure => simp [intOf]; simp only [List.length_cons] at hlt; omega
              · obtain rfl : q = W.length := by omega
                clear hlt hq
                go_wp2_with fail
                refine (HI.alive_any _).mono ?_
                rintro e w8 ⟨rfl, hb⟩
                have b8 := b7.trans (hb.mono b7.size)
                go_wp2_with fail
                go_ret
                exact ⟨rfl, b8⟩

set_option maxRecDepth 100000 in
/-- The statement's walk. -/
theorem first_walk {w : World} (a1 : Option Addr) (len1 cap1 : Nat) (z1 : List Int) (t1 : IsRow .i64 w a1 len1 cap1 z1) (now : Int) :
    Calls Try.prog 5 #[.slice a1 len1 cap1, .int .i64 now] w fun e w' => e = .returned (.bool true) ∧ Below w.heap.size w w' := by
  by_cases h3 : 60 < (len1 : Int)
  · go_enter Try.func5, Try.ntmps5
    go_wp2_with fail
    refine (HI.alive_any _).mono ?_
    rintro e w3 ⟨rfl, hb⟩
    go_wp2_with fail
    go_ret
    exact ⟨rfl, hb⟩
  exact first_main a1 len1 cap1 z1 now w t1 (by omega)

end HS
end Go.Proofs.Ytmneilbfpomobaa
