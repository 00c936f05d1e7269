/- HeapCancels: the walk of the statement. -/
import Derived.Test.YtmneilbfpomobaaAlive4
import Derived.Test.YtmneilbfpomobaaCancelS
import Derived.Test.YtmneilbfpomobaaSorts
import Derived.Deep.LoopGhost
namespace Go.Proofs.Ytmneilbfpomobaa
open Go.RowKit
namespace HI

theorem undB : Try.prog.underlying 31 = some (.slice 4) := by kernel_rfl
theorem infoB : (Try.prog.info? 4).map (fun i => (i.zero, i.size, i.bytes)) = some (some (.bool false), 1, 1) := by kernel_rfl

set_option maxRecDepth 100000 in
/-- the slice of marks -/
theorem make_marks (base : Nat) (w : World) (n : Nat) (hn : n ≤ 60) (hb : base ≤ w.heap.size) : ∃ w', (Instr.makeSlice 31 (.int .i64 (n : Int)) (.int .i64 (n : Int))).run Try.prog w = .ok (.slice (some ⟨w.heap.size, 0, none⟩) n n) w' ∧
    w'.ownsRow base 4 1 (.slice (some ⟨w.heap.size, 0, none⟩) n n) n ((List.range n).map fun i => Value.bool ((fun _ => false) i)) ∧ Only (fun _ => False) w w' := by
  obtain ⟨i, hi, hz, hsz, hby⟩ := info_parts infoB
  obtain ⟨w', h1, h2, h3⟩ := run_makeSlice_full (P := Try.prog) (w := w) base 31 4 i (.bool false) 1 undB hi hz hsz .i64 .i64 n (by omega) (by rw [hby]; omega) (by unfold maxLen; omega) hb
  refine ⟨w', h1, ?_, (only_of_grown h3).mono fun b _ q => by simp at q⟩
  rw [show Value.cells (.bool false) = #[.bool false] from rfl, toList_madeCells_one, Nat.mul_one, made_marks] at h2
  exact h2

/-- The world's own marks: of a slice made by the call. -/
abbrev Gone (base : Nat) (w : World) (m n : Nat) (g : Nat → Bool) : Prop := w.ownsRow base 4 1 (.slice (some ⟨m, 0, none⟩) n n) n ((List.range n).map fun i => Value.bool (g i))

theorem Gone.cell {base : Nat} {w : World} {m n : Nat} {g : Nat → Bool} (h : Gone base w m n g) {i : Nat} (hi : i < n) : w.cell? ⟨m, i, none⟩ = some (.bool (g i)) ∧ w.frozen? ⟨m, i, none⟩ = false := by
  refine ⟨?_, h.frozenAt i⟩
  rw [h.cellAt i (by omega)]
  simp [hi]

theorem Gone.set {base : Nat} {w : World} {m n : Nat} {g : Nat → Bool} (h : Gone base w m n g) (k : Nat) : Gone base (w.setCell ⟨m, k, none⟩ (.bool true)) m n (mark g k) ∧ Only (fun b => b = m) w (w.setCell ⟨m, k, none⟩ (.bool true)) := by
  obtain ⟨h1, h2⟩ := h.stored k (.bool true)
  rw [set_marks] at h1
  exact ⟨h1, (only_of_grown h2).mono fun b _ q => by simpa using q⟩

set_option maxRecDepth 100000 in
set_option maxHeartbeats 4000000 in
theorem cancels_main (a1 : Option Addr) (len1 cap1 : Nat) (z1 : List Int) (a2 : Option Addr) (len2 cap2 : Nat) (z2 : List Int) (w : World) (t1 : IsRow .i64 w a1 len1 cap1 z1) (t2 : IsRow .i64 w a2 len2 cap2 z2) (h3 : len1 ≤ 60) (h4 : len2 ≤ 60) :
    Calls Try.prog 4 #[.slice a1 len1 cap1, .slice a2 len2 cap2] w fun e w' => e = .returned (.bool true) ∧ Below w.heap.size w w' := by
  have g3 : decide (60 < (len1 : Int)) = false := by simp; omega
  have g4 : decide (60 < (len2 : Int)) = false := by simp; omega
  obtain ⟨z, hz⟩ : ∃ z : Nat → Int, z = fun i => z1.getD i 0 := ⟨_, rfl⟩
  have HZ := hide hz
  clear hz
  go_enter Try.func4, Try.ntmps4
  go_wp2_with fail
  refine (new_any w).mono ?_
  rintro e w1 ⟨c, F0, rfl, h0, o0, hF0⟩
  have b0 := Below.then_only (Nat.le_refl _) (Below.refl _ _) o0 (fun b q => q.elim)
  obtain ⟨w2, hmk, hrow, om⟩ := make_marks w.heap.size w1 len1 h3 b0.size
  have h1 := h0.kept om (fun _ _ q => q)
  have b2 : Below w.heap.size w w2 := b0.trans (om.below b0.size (fun _ q => q.elim))
  have hmF : ∀ b, F0 b → b ≠ w1.heap.size := fun b q e => by have := h0.flt b q; omega
  have hm1 : w.heap.size ≤ w1.heap.size := b0.size
  have HM := hide hrow
  clear o0 b0 om h0 hrow
  go_wp2_with fail
  have hGo : Gone w.heap.size w2 w1.heap.size len1 (fun _ => false) := HM.out
  clear hmk HM
  generalize w1.heap.size = m at *
  clear w1
  go_loopw [7] (fun i wr => ∃ (k : Nat) (W : List (Wt Int)), k ≤ len1 ∧ i = .int .i64 k ∧ Below w.heap.size w wr ∧ Hid (Full z k W) ∧ Hid (Gone w.heap.size wr m len1 (fun _ => false)) ∧ ∃ F, (∀ b, F b → w.heap.size ≤ b ∧ b ≠ m) ∧ Is F wr c W k) (fun i _ => len1 - (intOf i).toNat)
  case atStart => exact ⟨0, [], Nat.zero_le _, rfl, b2, Full.nil z, hGo, F0, fun b q => ⟨hF0 b q, hmF b q⟩, h1⟩
  case round =>
    clear h1 b2 hF0 hmF hGo
    obtain ⟨k, W, hk, rfl, b1, hG, hM, F, hF, hS⟩ := hrel
    by_cases hlt : k < len1
    · obtain ⟨b, off, rfl, hcell⟩ := t1.at hlt
      have hc1 : wr.cell? ⟨b, off + k, none⟩ = some (.int .i64 (z k)) := by
        rw [HZ.out]
        exact (b1.cell (p := ⟨b, off + k, none⟩) (lt_of_cell hcell)).trans hcell
      clear hcell
      go_wp2_with fail
      have hp := put_any hS (by rw [hG.out.len]; omega) (by omega) (by omega) (z k) (k : Int)
      refine hp.mono ?_
      clear hp
      rintro e w2 ⟨F2, rfl, hS2, o2, hF2⟩
      have b2 := Below.then_only (Nat.le_refl _) b1 o2 (fun b q => (hF b q).1)
      have hmlt := (hM.out.lt m rfl).2
      have hG2 : ∀ b, F2 b → w.heap.size ≤ b ∧ b ≠ m := fun b q => (hF2 b q).elim (hF b) (fun q => ⟨Nat.le_trans b1.size q, by omega⟩)
      have hM2 : Hid (Gone w.heap.size w2 m len1 (fun _ => false)) := hide (ownsRow_only hM.out o2 (fun b q r => by cases q; exact (hF _ r).2 rfl))
      have hput : Hid (Full z (k + 1) (insW ⟨z k, k + 1, k⟩ W)) := hide hG.out.put
      clear hS o2 hF b1 hF2 hG hM
      go_wp2_with fail
      go_roundw
      case rel => exact ⟨k + 1, _, hlt, by go_num, b2, hput, hM2, F2, hG2, by simpa using hS2⟩
      case measure => simp [intOf]; omega
    · obtain rfl : k = len1 := by omega
      clear hlt hk
      go_wp2_with fail
      go_loopw [8, 9, 10] (fun i _ _ wr => ∃ (j : Nat) (g : Nat → Bool) (W : List (Wt Int)), j ≤ len2 ∧ i = .int .i64 j ∧ Below w.heap.size w wr ∧ Hid (Marks z k g W) ∧ Hid (Gone w.heap.size wr m k g) ∧ Is F wr c W k) (fun i _ _ _ => len2 - (intOf i).toNat)
      case atStart => exact ⟨0, _, W, Nat.zero_le _, rfl, b1, hG.out.marks, hM, hS⟩
      case round =>
        clear b1 hG hM hS
        obtain ⟨j, g, W, hj, rfl, b1, hG, hM, hS⟩ := hrel
        by_cases hlt : j < len2
        · obtain ⟨b, off, rfl, hcell⟩ := t2.at hlt
          obtain ⟨key, hkey⟩ : ∃ q, q = z2.getD j 0 := ⟨_, rfl⟩
          have hc1 : wr.cell? ⟨b, off + j, none⟩ = some (.int .i64 key) := by
            rw [hkey]
            exact (b1.cell (p := ⟨b, off + j, none⟩) (lt_of_cell hcell)).trans hcell
          clear hcell hkey
          have hWn : Hid (W.length ≤ 1000000) := hide (by have := hG.out.len; omega)
          have hmiss : (∀ q : Nat, q < k → key = (q : Int) + 1 → g q = true) → Hid (findW W key = none) := fun h => hide (find_none hG.out h)
          by_cases k1 : key < 1
          · have d1 : decide (1 ≤ key) = false := by simp; omega
            have HN := hmiss (fun q _ e => by omega)
            clear hmiss k1
            go_wp2_with fail
            have hp := cancel_any hS hWn.out key
            rw [HN.out, out_none HN.out] at hp
            refine hp.mono ?_
            clear hp
            rintro e w2 ⟨rfl, hS2, o2⟩
            have b2 := Below.then_only (Nat.le_refl _) b1 o2 (fun b q => (hF b q).1)
            have hM2 : Hid (Gone w.heap.size w2 m k g) := hide (ownsRow_only hM.out o2 (fun b q r => by cases q; exact (hF _ r).2 rfl))
            clear hS o2 b1 hM HN d1
            simp only [Option.isSome_none]
            go_wp2_with fail
            go_roundw
            case rel => exact ⟨j + 1, g, W, hlt, by go_num, b2, hG, hM2, hS2⟩
            case measure => simp [intOf]; omega
          by_cases k2 : (k : Int) < key
          · have d1 : decide (1 ≤ key) = true := by simp; omega
            have d2 : decide (key ≤ (k : Int)) = false := by simp; omega
            have HN := hmiss (fun q _ e => by omega)
            clear hmiss k1 k2
            go_wp2_with fail
            have hp := cancel_any hS hWn.out key
            rw [HN.out, out_none HN.out] at hp
            refine hp.mono ?_
            clear hp
            rintro e w2 ⟨rfl, hS2, o2⟩
            have b2 := Below.then_only (Nat.le_refl _) b1 o2 (fun b q => (hF b q).1)
            have hM2 : Hid (Gone w.heap.size w2 m k g) := hide (ownsRow_only hM.out o2 (fun b q r => by cases q; exact (hF _ r).2 rfl))
            clear hS o2 b1 hM HN d1 d2
            simp only [Option.isSome_none]
            go_wp2_with fail
            go_roundw
            case rel => exact ⟨j + 1, g, W, hlt, by go_num, b2, hG, hM2, hS2⟩
            case measure => simp [intOf]; omega
          obtain ⟨q, hq⟩ : ∃ q : Nat, key = (q : Int) + 1 := ⟨(key - 1).toNat, by omega⟩
          have hqk : q < k := by omega
          have d1 : decide (1 ≤ key) = true := by simp; omega
          have d2 : decide (key ≤ (k : Int)) = true := by simp; omega
          have hsub : IntKind.i64.wrap (key - 1) = (q : Int) := by
            rw [show key - 1 = (q : Int) by omega]
            exact IntWalk.i64_in _ ⟨by omega, by omega⟩
          obtain ⟨hgc, _⟩ := Gone.cell hM.out hqk
          have hq1 : (q : Int) < k := by omega
          have hq0 : (0 : Int) ≤ q := by omega
          have HQ := hide hq
          clear hq
          cases hgq : g q with
          | true =>
            rw [hgq] at hgc
            have HN := hmiss (fun q' _ e => by
              have := HQ.out
              obtain rfl : q' = q := by omega
              exact hgq)
            clear hmiss k1 k2 hgq
            go_wp2_with fail
            have hp := cancel_any hS hWn.out key
            rw [HN.out, out_none HN.out] at hp
            refine hp.mono ?_
            clear hp
            rintro e w2 ⟨rfl, hS2, o2⟩
            have b2 := Below.then_only (Nat.le_refl _) b1 o2 (fun b q => (hF b q).1)
            have hM2 : Hid (Gone w.heap.size w2 m k g) := hide (ownsRow_only hM.out o2 (fun b q r => by cases q; exact (hF _ r).2 rfl))
            clear hS o2 b1 hM HN d1 d2 hgc hsub
            simp only [Option.isSome_none]
            go_wp2_with fail
            go_roundw
            case rel => exact ⟨j + 1, g, W, hlt, by go_num, b2, hG, hM2, hS2⟩
            case measure => simp [intOf]; omega
          | false =>
            rw [hgq] at hgc
            have HS : Hid ((findW W key).isSome = true) := hide (by rw [HQ.out]; exact find_some hG.out hqk hgq)
            have hG2 : Hid (Marks z k (mark g q) (outW W key)) := hide (by rw [HQ.out]; exact hG.out.cancel q hqk)
            clear hmiss k1 k2 hgq
            go_wp2_with fail
            have hp := cancel_any hS hWn.out key
            rw [HS.out] at hp
            refine hp.mono ?_
            clear hp
            rintro e w2 ⟨rfl, hS2, o2⟩
            have b2 := Below.then_only (Nat.le_refl _) b1 o2 (fun b q => (hF b q).1)
            have hM2 : Gone w.heap.size w2 m k g := ownsRow_only hM.out o2 (fun b q r => by cases q; exact (hF _ r).2 rfl)
            obtain ⟨hgc2, hgf⟩ := hM2.cell hqk
            obtain ⟨hM3, o3⟩ := Gone.set hM2 q
            have hM4 := hide hM3
            have hS3 := hS2.kept o3 (fun b q => (hF b q).2)
            have hmb := (hM2.lt m rfl).1
            have b3 := b2.trans (o3.below b2.size (fun b q => by omega))
            have HF := hide hF
            clear hS o2 b1 hM hgc HS hG hM2 hM3 hS2 b2 o3 hF
            go_wp2_with fail
            go_roundw
            case rel => exact ⟨j + 1, _, _, hlt, by go_num, b3, hG2, hM4, hS3⟩
            case measure => simp [intOf]; omega
        · obtain rfl : j = len2 := by omega
          clear hlt hj
          go_wp2_with fail
          go_loopg [11, 12] k (fun gk _ _ wr => ∃ (g : Nat → Bool) (W : List (Wt Int)), W.length ≤ gk ∧ Below w.heap.size w wr ∧ Hid (Marks z k g W) ∧ Hid (Gone w.heap.size wr m k g) ∧ Is F wr c W k)
          case atStart => exact ⟨g, W, hG.out.len, b1, hG, hM, hS⟩
          case round =>
            clear b1 hG hM hS
            obtain ⟨g, W, hWk, b1, hG, hM, hS⟩ := hrel
            cases W with
            | nil =>
              go_wp2_with fail
              have hp := take_any hS (by simp) 9223372036854775807
              refine hp.mono ?_
              clear hp
              rintro e w2 ⟨rfl, hS2, o2⟩
              have b2 := Below.then_only (Nat.le_refl _) b1 o2 (fun b q => (hF b q).1)
              have hM2 : Hid (Gone w.heap.size w2 m k g) := hide (ownsRow_only hM.out o2 (fun b q r => by cases q; exact (hF _ r).2 rfl))
              have HA : Hid (∀ i, i < k → g i = true) := hide (fun i hi => hG.out.done hi)
              clear hS o2 b1 hM hG
              simp only [takeV]
              have hS3 : Is F w2 c [] k := hS2
              clear hS2
              go_wp2_with fail
              go_loopw [13] (fun i wr => ∃ (j : Nat), j ≤ k ∧ i = .int .i64 j ∧ wr = w2) (fun i _ => k - (intOf i).toNat)
              case atStart => exact ⟨0, Nat.zero_le _, rfl, rfl⟩
              case round =>
                obtain ⟨j, hj, rfl, rfl⟩ := hrel
                by_cases hlt : j < k
                · obtain ⟨hgc, _⟩ := Gone.cell hM2.out hlt
                  rw [HA.out j hlt] at hgc
                  go_wp2_with fail
                  go_roundw
                  case rel => exact ⟨j + 1, hlt, by go_num, by first | trivial | rfl⟩
                  case measure => simp [intOf]; omega
                · obtain rfl : j = k := by omega
                  clear hlt hj hM2 HA
                  go_wp2_with fail
                  refine (alive_any _).mono ?_
                  rintro e w3 ⟨rfl, hb⟩
                  have hS4 := hS3.kept (Below.only hb) (fun b q => Nat.not_le.2 (hS3.flt b q))
                  have b3 := b2.trans (hb.mono b2.size)
                  clear hS3 hb b2
                  go_wp2_with fail
                  refine (len_any hS4).mono ?_
                  rintro e w4 ⟨rfl, rfl⟩
                  simp only [List.length_nil]
                  go_wp2_with fail
                  go_ret
                  exact ⟨rfl, b3⟩
            | cons x W =>
              have hx0 := hG.out.low x (by simp)
              have hx1 := hG.out.high x (by simp)
              have hxa := hG.out.at_ x (by simp)
              obtain ⟨q, hq⟩ : ∃ q : Nat, x.v = q := ⟨x.v.toNat, by omega⟩
              have hqk : q < k := by omega
              have hle : x.at_ ≤ 9223372036854775807 := by rw [hxa, HZ.out]; exact t1.fits (by omega)
              have hlen : (x :: W).length ≤ 1000000 := by have := hG.out.len; omega
              have hp := take_any hS hlen 9223372036854775807
              rw [takeV_late x W hle, takeW_late x W hle, hq] at hp
              obtain ⟨hgq, hG2⟩ := hG.out.take
              rw [hq] at hgq hG2
              have hG3 : Hid (Marks z k (mark g q) W) := hide hG2
              have HGQ : Hid (g q = false) := hide hgq
              simp only [List.length_cons] at hWk
              clear hx0 hx1 hxa hq hle hlen hG hgq hG2
              go_wp2_with fail
              refine hp.mono ?_
              clear hp
              rintro e w2 ⟨rfl, hS2, o2⟩
              have b2 := Below.then_only (Nat.le_refl _) b1 o2 (fun b q => (hF b q).1)
              have hM2 : Gone w.heap.size w2 m k g := ownsRow_only hM.out o2 (fun b q r => by cases q; exact (hF _ r).2 rfl)
              obtain ⟨hgc2, hgf⟩ := hM2.cell hqk
              rw [HGQ.out] at hgc2
              obtain ⟨hM3, o3⟩ := Gone.set hM2 q
              have hM4 := hide hM3
              have hS3 := hS2.kept o3 (fun b q => (hF b q).2)
              have hmb := (hM2.lt m rfl).1
              have b3 := b2.trans (o3.below b2.size (fun b q => by omega))
              have HF := hide hF
              have hq1 : (q : Int) < k := by omega
              have hq0 : (0 : Int) ≤ q := by omega
              have d1 : decide ((q : Int) < 0) = false := by simp
              have d2 : decide ((k : Int) ≤ q) = false := by simp; omega
              have d3 : decide (k ≤ q) = false := by simp; omega
              clear hS o2 b1 hM hM2 hM3 hS2 b2 o3 hF HGQ
              go_wp2_with fail
              go_roundg (gk - 1)
              case measure => omega
              case rel => exact ⟨_, W, by omega, b3, hG3, hM4, hS3⟩

set_option maxRecDepth 100000 in
/-- The statement's walk. -/
theorem cancels_walk {w : World} (a1 : Option Addr) (len1 cap1 : Nat) (z1 : List Int) (t1 : IsRow .i64 w a1 len1 cap1 z1) (a2 : Option Addr) (len2 cap2 : Nat) (z2 : List Int) (t2 : IsRow .i64 w a2 len2 cap2 z2) :
    Calls Try.prog 4 #[.slice a1 len1 cap1, .slice a2 len2 cap2] w fun e w' => e = .returned (.bool true) ∧ Below w.heap.size w w' := by
  by_cases h3 : 60 < (len1 : Int)
  · go_enter Try.func4, Try.ntmps4
    go_wp2_with fail
    refine (alive_any _).mono ?_
    rintro e w3 ⟨rfl, hb⟩
    go_wp2_with fail
    go_ret
    exact ⟨rfl, hb⟩
  by_cases h4 : 60 < (len2 : Int)
  · go_enter Try.func4, Try.ntmps4
    go_wp2_with fail
    refine (alive_any _).mono ?_
    rintro e w3 ⟨rfl, hb⟩
    go_wp2_with fail
    go_ret
    exact ⟨rfl, hb⟩
  exact cancels_main a1 len1 cap1 z1 a2 len2 cap2 z2 w t1 t2 (by omega) (by omega)

end HI
end Go.Proofs.Ytmneilbfpomobaa
