/- LruPlays: the walk of the statement. -/
import Derived.Test.YtdgnfdheofacgaaGreatPiL
import Derived.Test.YtdgnfdheofacgaaGreatAlive5
import Derived.Test.YtdgnfdheofacgaaGreatArgs
import Derived.Test.YtdgnfdheofacgaaGreatHeldN
import Derived.Deep.DrawnRows
namespace Go.Proofs.YtdgnfdheofacgaaGreat
open Go.RowKit
namespace LP

/-- the operations that came in -/
def ArgRow (w : World) (a : Option Addr) (len : Nat) : Prop := ∀ i, i < len → ∃ b off x y z, a = some ⟨b, off, none⟩ ∧ w.cell? ⟨b, off + i * 3, none⟩ = some (.int .i64 x) ∧ w.cell? ⟨b, off + i * 3 + 1, none⟩ = some (.int .i64 y) ∧ w.cell? ⟨b, off + i * 3 + 2, none⟩ = some (.int .i64 z)

/-- What stands behind the switch. -/
def Mid (w wx : World) (c r B j bo : Nat) (room y : Int) : Prop := ∃ X L F G K, PL w wx c r B X X room L F G K ∧ X.length ≤ j + 1 ∧ (X.length : Int) ≤ room ∧ (∀ s ∈ X, 0 ≤ s.pins ∧ s.pins ≤ ((j + 1 : Nat) : Int)) ∧ L.length = j ∧ (∀ l ∈ L, l.length ≤ 1000) ∧ wx.cell? ⟨bo, 1, none⟩ = some (.int .i64 y)

attribute [local go_sem ↓] Go.wp_at_zero Go.wp_at_succ

set_option maxRecDepth 100000 in
set_option maxHeartbeats 40000000 in
theorem plays_main (room0 : Int) (zero : Bool) (a1 : Option Addr) (len1 cap1 : Nat) (w : World) (t1 : ArgRow w a1 len1) (h3 : len1 ≤ 120) :
    Calls Tryz.prog 3 #[.int .i64 room0, .bool zero, .slice a1 len1 cap1] w fun e w' => e = .returned (.bool true) ∧ Below w.heap.size w w' := by
  have g3 : ¬ 120 < (len1 : Int) := by omega
  go_enter Tryz.func3, Tryz.ntmps3
  go_wp2_with fail
  refine (II.new_any room0 w).mono ?_
  rintro e w1 ⟨c0, F0, rfl, h0, o0, hF0⟩
  go_wp2_with fail
  refine (RL.room_any room0 w1).mono ?_
  rintro e w1' ⟨rfl, rfl⟩
  have hcap : II.cap room0 = min (max room0 0) 100000 := rfl
  rw [hcap] at h0
  clear hcap
  obtain ⟨rm, hrm⟩ : ∃ rm : Int, rm = min (max room0 0) 100000 := ⟨_, rfl⟩
  rw [← hrm] at h0 ⊢
  have hrm0 : 0 ≤ rm := by omega
  clear hrm
  go_upto_if 40 with fail
  have hr0 := RL.made w1 rm 30
  have h01 := h0.kept (Only.alloc (fun _ => False) w1 (.cells #[.slice none 0 0, .int .i64 rm] 30)) (fun _ _ q => q)
  have o01 : Only (fun _ => False) w (w1.alloc (.cells #[.slice none 0 0, .int .i64 rm] 30)) := o0.trans (Only.alloc _ w1 _)
  have hs0 := o0.size
  have hF0w : ∀ b, F0 b → b ≠ w1.heap.size := fun b q e => by have := LruIs.flt h0 b q; omega
  clear h0 o0
  go_cut [7, 8] from 41 to 44 (fun s7 s8 wx => ∃ c r F G rm, s7 = .pointer (some ⟨c, 0, none⟩) ∧ s8 = .pointer (some ⟨r, 0, none⟩) ∧ II.CIs F wx c rm [] ∧ RL.Is G wx r [] rm ∧ 0 ≤ rm ∧ (∀ b, F b → w.heap.size ≤ b) ∧ (∀ b, G b → w.heap.size ≤ b) ∧ (∀ b, F b → ¬ G b) ∧ Only (fun _ => False) w wx)
  case first =>
    as_aux_lemma =>
    clear t1
    cases zero
    · generalize (w1.alloc (.cells #[.slice none 0 0, .int .i64 rm] 30)) = w2 at *
      go_wp2_with fail
      go_meet
      exact ⟨_, _, F0, fun b => b = w1.heap.size, rm, rfl, rfl, .inl h01, hr0, hrm0, hF0, fun b q => by omega, fun b q s => hF0w b q s, o01⟩
    · generalize (w1.alloc (.cells #[.slice none 0 0, .int .i64 rm] 30)) = w2 at *
      have hs2 := o01.size
      have hz := RL.made (w2.alloc (.cells #[.map none, .int .i64 0, .int .i64 0, .int .i64 0, .pointer none, .pointer none, .int .i64 0] 36)) 0 30
      rw [World.size_alloc] at hz
      have ez : ∀ o, (w2.alloc (.cells #[.map none, .int .i64 0, .int .i64 0, .int .i64 0, .pointer none, .pointer none, .int .i64 0] 36)).cell? ⟨w2.heap.size, o, none⟩ = #[Value.map none, .int .i64 0, .int .i64 0, .int .i64 0, .pointer none, .pointer none, .int .i64 0][o]? := fun o => World.cell?_alloc_new w2 _ _ o
      have hZ : II.Zero ((w2.alloc (.cells #[.map none, .int .i64 0, .int .i64 0, .int .i64 0, .pointer none, .pointer none, .int .i64 0] 36)).alloc (.cells #[.slice none 0 0, .int .i64 0] 30)) w2.heap.size := ⟨cell_alloc _ (ez 0), cell_alloc _ (ez 6), by simp; omega⟩
      have HZ := hide hZ
      have HRZ := hide hz
      clear hz ez hZ
      go_wp2_with fail
      go_meet
      exact ⟨_, _, fun b => b = w2.heap.size, fun b => b = w2.heap.size + 1, 0, rfl, rfl, .inr ⟨HZ.out, fun b => Iff.rfl, rfl, rfl⟩, HRZ.out, by omega, fun b q => by omega, fun b q => by omega, fun b q s => by omega, (o01.trans (Only.alloc _ _ _)).trans (Only.alloc _ _ _)⟩
  case rest =>
    as_aux_lemma =>
    obtain ⟨c, r, F, G, rm', rfl, rfl, hF, hG, hrm', hFn, hGn, hFG, oc⟩ := hcut
    clear hr0 h01 o01 hF0w hrm0 hF0 hs0
    go_wp2_with fail
    obtain ⟨B, hB⟩ : ∃ B, B = wc.heap.size := ⟨_, rfl⟩
    have p0 : PLs w (wc.alloc (.cells nils30 54)) c r B 0 rm' := by
      obtain ⟨v, hv⟩ := hG
      have hsc := oc.size
      have hkm := BK.made wc 54
      rw [← hB] at hkm
      have oa := Only.alloc (fun _ => False) wc (.cells nils30 54)
      refine ⟨[], [], F, G, fun b => b = B, ⟨hF.kept oa (fun _ _ q => q), ⟨v, hv.kept oa (fun _ _ q => q)⟩, hkm, fun b q => by have := hv.glt b q; simp; omega, hFG, fun b q e => by have := hF.flt b q; omega, fun b q e => by have := hv.glt b q; omega, hFn, hGn, fun b q => by omega, new_below (oc.below (Nat.le_refl _) (fun _ q => q.elim)) oa (fun _ q => q.elim)⟩, by simp, by simpa using hrm', by simp, rfl, by simp⟩
    have p1 : PLs w (wc.alloc (.cells #[Value.slice none 0 0, .slice none 0 0, .slice none 0 0, .slice none 0 0, .slice none 0 0, .slice none 0 0, .slice none 0 0, .slice none 0 0, .slice none 0 0, .slice none 0 0, .slice none 0 0, .slice none 0 0, .slice none 0 0, .slice none 0 0, .slice none 0 0, .slice none 0 0, .slice none 0 0, .slice none 0 0, .slice none 0 0, .slice none 0 0, .slice none 0 0, .slice none 0 0, .slice none 0 0, .slice none 0 0, .slice none 0 0, .slice none 0 0, .slice none 0 0, .slice none 0 0, .slice none 0 0, .slice none 0 0] 54)) c r B 0 rm' := p0
    rw [← hB]
    clear hF hG hFn hGn hFG oc p0 hB
    generalize (wc.alloc (.cells #[Value.slice none 0 0, .slice none 0 0, .slice none 0 0, .slice none 0 0, .slice none 0 0, .slice none 0 0, .slice none 0 0, .slice none 0 0, .slice none 0 0, .slice none 0 0, .slice none 0 0, .slice none 0 0, .slice none 0 0, .slice none 0 0, .slice none 0 0, .slice none 0 0, .slice none 0 0, .slice none 0 0, .slice none 0 0, .slice none 0 0, .slice none 0 0, .slice none 0 0, .slice none 0 0, .slice none 0 0, .slice none 0 0, .slice none 0 0, .slice none 0 0, .slice none 0 0, .slice none 0 0, .slice none 0 0] 54)) = w2 at *
    go_loopw [10] (fun i wr => ∃ j : Nat, j ≤ len1 ∧ i = .int .i64 j ∧ PLs w wr c r B j rm') (fun i _ => len1 - (intOf i).toNat)
    case atStart => exact ⟨0, Nat.zero_le _, rfl, p1⟩
    case round =>
      as_aux_lemma =>
      clear p1
      obtain ⟨j, hj, rfl, hp⟩ := hrel
      by_cases hlt : j < len1
      · as_aux_lemma =>
        obtain ⟨b, off, x, y, z, rfl, c0', c1', c2'⟩ := t1 j hlt
        obtain ⟨X, L, F, G, K, hPI, hX, hXr, hpins, hL, hLl⟩ := hp
        have d0 := (hPI.below.cell (p := ⟨b, off + j * 3, none⟩) (lt_of_cell c0')).trans c0'
        have d1 := (hPI.below.cell (p := ⟨b, off + j * 3 + 1, none⟩) (lt_of_cell c1')).trans c1'
        have d2 := (hPI.below.cell (p := ⟨b, off + j * 3 + 2, none⟩) (lt_of_cell c2')).trans c2'
        have hjn : (j : Int) < len1 := by omega
        obtain ⟨bo, hbo⟩ : ∃ bo, bo = wr.heap.size := ⟨_, rfl⟩
        have e0 : (wr.alloc (.cells #[.int .i64 x, .int .i64 y, .int .i64 z] 56)).cell? ⟨bo, 0, none⟩ = some (.int .i64 x) := by rw [hbo, World.cell?_alloc_new]; rfl
        have e1 : (wr.alloc (.cells #[.int .i64 x, .int .i64 y, .int .i64 z] 56)).cell? ⟨bo, 1, none⟩ = some (.int .i64 y) := by rw [hbo, World.cell?_alloc_new]; rfl
        have e2 : (wr.alloc (.cells #[.int .i64 x, .int .i64 y, .int .i64 z] 56)).cell? ⟨bo, 2, none⟩ = some (.int .i64 z) := by rw [hbo, World.cell?_alloc_new]; rfl
        have hbF : ∀ b, F b → b ≠ bo := fun b q => by have := hPI.h.flt b q; omega
        have hbG : ∀ b, G b → b ≠ bo := fun b q => by have := hPI.glt b q; omega
        have hP1 := hPI.only (Only.alloc (fun _ => False) wr (.cells #[.int .i64 x, .int .i64 y, .int .i64 z] 56))
        have hbl : bo < (wr.alloc (.cells #[.int .i64 x, .int .i64 y, .int .i64 z] 56)).heap.size := by simp; omega
        have hfind := RL.find_any hP1.g (by omega) y
        have HL := hide hL
        have HLl := hide hLl
        have HPI := hide hPI
        clear c0' c1' c2' hPI hL hLl
        go_wp2_with fail
        rw [← hbo]
        have HBO := hide hbo
        clear hbo d0 d1 d2
        generalize (wr.alloc (.cells #[.int .i64 x, .int .i64 y, .int .i64 z] 56)) = w3 at *
        refine hfind.mono ?_
        clear hfind
        rintro e w3' ⟨rfl, rfl⟩
        go_upto_block 2 with fail
        have HP1 := hide hP1
        have HBF := hide hbF
        have HBG := hide hbG
        have HPINS := hide hpins
        clear hP1 hbF hbG hpins
        obtain ⟨ix, hix⟩ : ∃ ix : Int, ix = RL.idx X y := ⟨_, rfl⟩
        rw [← hix]
        have HIX := hide hix
        clear hix
        go_cut [12, 13, 14, 15, 16, 17, 18, 19, 20, 21, 22, 23, 24] from 65 to 244 (fun _ s13 _ _ _ _ _ _ _ _ _ _ _ wx => s13 = .bool true ∧ Mid w wx c r B j bo rm' y)
        case first =>
          as_aux_lemma =>
          clear t1
          by_cases hx1 : x = 1
          · as_aux_lemma =>
            subst hx1
            have hnd := HP1.out.h.nodup
            have hput := II.cput HP1.out.h y z
            have hl1 := putS_length (v := z) (k := y) hnd hXr
            have hl2 := putS_len1 (room := rm') (v := z) (k := y) hnd
            have hl3 := putS_pins (room := rm') (k := y) (v := z) HPINS.out
            have hput2 : ∀ wx : World, ∀ F4, PL w wx c r B (putS rm' X y z).1 X rm' L F4 G K → Calls Tryz.prog 9 #[.pointer (some ⟨r, 0, none⟩), .int .i64 y, .int .i64 z] wx fun e w' => ∃ G', e = .returned (.tuple #[.int .i64 (II.keyG (putS rm' X y z).2.1), .int .i64 (II.valG (putS rm' X y z).2.1), .bool (putS rm' X y z).2.1.isSome, .bool (putS rm' X y z).2.2]) ∧
                RL.Is G' w' r (putS rm' X y z).1 rm' ∧ Only G wx w' ∧ ∀ b, G' b → G b ∨ wx.heap.size ≤ b := fun wx F4 p => RL.put_any p.g (by omega) (fun s hs => (HPINS.out s hs).1) hnd hXr y z
            generalize II.keyG (putS rm' X y z).2.1 = ka at hput hput2
            generalize II.valG (putS rm' X y z).2.1 = va at hput hput2
            generalize (putS rm' X y z).2.1.isSome = ba at hput hput2
            generalize (putS rm' X y z).2.2 = bd at hput hput2
            generalize (putS rm' X y z).1 = Y at *
            have HPUT2 := hide hput2
            have H3 := hide hl3
            have hl2' : Y.length ≤ j + 1 := by omega
            clear hput2 hl3 hl2
            go_wp2_with fail
            refine hput.mono ?_
            clear hput
            rintro e w4 ⟨F4, rfl, h4, o4, hF4⟩
            have hP4 := HP1.out.stepH h4 o4 hF4
            have k1 := (o4.cell (p := ⟨bo, 1, none⟩) hbl (fun q => HBF.out bo q rfl)).trans e1
            have k2 := (o4.cell (p := ⟨bo, 2, none⟩) hbl (fun q => HBF.out bo q rfl)).trans e2
            have hbl4 : bo < w4.heap.size := Nat.lt_of_lt_of_le hbl o4.size
            clear h4 o4
            go_wp2_with fail
            refine (HPUT2.out _ _ hP4).mono ?_
            rintro e w5 ⟨G5, rfl, h5, o5, hG5⟩
            have hP5 := hP4.stepG h5 o5 hG5
            have m1 := (o5.cell (p := ⟨bo, 1, none⟩) hbl4 (fun q => HBG.out bo q rfl)).trans k1
            clear h5 o5 hP4
            go_wp2_with fail
            go_meet
            exact ⟨by simp, Y, L, F4, G5, K, hP5, hl2', hl1, H3.out, HL.out, HLl.out, m1⟩
          · have q1 : (x == 1) = false := by simp [hx1]
            have HPJ : Hid (∀ s ∈ X, 0 ≤ s.pins ∧ s.pins ≤ ((j + 1 : Nat) : Int)) := hide (fun s hs => by have := HPINS.out s hs; omega)
            clear hx1
            rcases RL.idx_slot HP1.out.h.nodup y with ⟨i, hi, hx, hs, hk, hw⟩ | ⟨hx, hs⟩
            · have hix := HIX.out.trans hx
              clear HIX hx
              subst hix
              have hPA := HP1.out.g
              obtain ⟨va, hPA⟩ := hPA
              obtain ⟨g, cap, rfl⟩ := own_form hPA.row (by omega)
              obtain ⟨_, _, e, c0, c1, c2⟩ := hPA.at_ hi
              cases e
              obtain ⟨n, hn⟩ : ∃ n, n = X.length := ⟨_, rfl⟩
              have hcl := hPA.cl
              rw [← hn] at hcl hX hXr
              have HA := hide hPA
              have HN := hide hn
              have a1 : w3.cell? ⟨g, i * 3 + 1, none⟩ = some (.int .i64 X[i].v) := c1
              have a2 : w3.cell? ⟨g, i * 3 + 2, none⟩ = some (.int .i64 X[i].pins) := c2
              have hgF : ¬ F g := fun q => HP1.out.fg g q (HA.out.own g rfl).1
              have hrF : ¬ F r := fun q => HP1.out.fg r q HA.out.gr
              have hglt := lt_of_cell a1
              have hrlt := lt_of_cell hcl
              have hi0 : (0 : Int) ≤ i := by omega
              have hin : (i : Int) < n := by omega
              have hin2 : i < n := by omega
              clear c0 c1 c2 hPA hn
              by_cases hx2 : x = 2
              · as_aux_lemma =>
                subst hx2
                have hget := II.cget HP1.out.h y
                have hus : useS X y = X[i] :: X.eraseIdx i := by simp [useS, hs, hw]
                rw [hs, hus] at hget
                have HG := hide hget
                have HPS : Hid (∀ s ∈ X[i] :: X.eraseIdx i, 0 ≤ s.pins ∧ s.pins ≤ ((j + 1 : Nat) : Int)) := hide (fun s q => by
                  rcases List.mem_cons.1 q with rfl | q
                  · exact HPJ.out _ (List.getElem_mem hi)
                  · exact HPJ.out _ (List.mem_of_mem_eraseIdx q))
                have HLN : Hid ((X[i] :: X.eraseIdx i).length = n) := hide (by rw [List.length_cons, List.length_eraseIdx, if_pos hi, HN.out]; omega)
                clear hget hus hs hk hw
                go_wp2_with fail
                refine HG.out.mono ?_
                rintro e w4 ⟨rfl, h4, o4⟩
                simp only [II.valOf, Option.isSome_some]
                have hP4 := HP1.out.stepH h4 o4 (fun b q => .inl q)
                have k1 := (o4.cell (p := ⟨bo, 1, none⟩) hbl (fun q => HBF.out bo q rfl)).trans e1
                have hcl4 := (o4.cell (p := ⟨r, 0, none⟩) hrlt hrF).trans hcl
                have a14 := (o4.cell (p := ⟨g, i * 3 + 1, none⟩) hglt hgF).trans a1
                have hbl4 : bo < w4.heap.size := Nat.lt_of_lt_of_le hbl o4.size
                have huse := RL.use_any hP4.g (by rw [← HN.out]; omega) hi
                have HU := hide huse
                have HP4 := hide hP4
                clear h4 o4 hP4 huse a1 a2 hcl HG
                go_wp2_with fail
                refine HU.out.mono ?_
                rintro e w5 ⟨rfl, G5, h5, o5, hG5⟩
                have hP5 := HP4.out.stepG h5 o5 hG5
                have m1 := (o5.cell (p := ⟨bo, 1, none⟩) hbl4 (fun q => HBG.out bo q rfl)).trans k1
                clear h5 o5
                go_wp2_with fail
                go_meet
                exact ⟨by simp, _, L, F, G5, K, hP5, by rw [HLN.out]; omega, by rw [HLN.out]; exact hXr, HPS.out, HL.out, HLl.out, m1⟩
              · have q2 : (x == 2) = false := by simp [hx2]
                clear hx2
                by_cases hx4 : x = 4
                · as_aux_lemma =>
                  subst hx4
                  have hpin := II.cpin HP1.out.h y (fun s q => by rw [hs] at q; cases q; have := HPINS.out X[i] (List.getElem_mem hi); omega)
                  have hus : (turnS X y fun s => { s with pins := s.pins + 1 }) = X.set i { X[i] with pins := X[i].pins + 1 } := by rw [← hk]; exact turnS_set HP1.out.h.nodup hi _
                  rw [hs, hus] at hpin
                  have HG := hide hpin
                  have hpb := HPINS.out X[i] (List.getElem_mem hi)
                  have HPS : Hid (∀ s ∈ X.set i { X[i] with pins := X[i].pins + 1 }, 0 ≤ s.pins ∧ s.pins ≤ ((j + 1 : Nat) : Int)) := hide (fun s q => by
                    rcases List.mem_or_eq_of_mem_set q with q | rfl
                    · exact HPJ.out s q
                    · simp only; omega)
                  have hadd : IntKind.i64.wrap (X[i].pins + 1) = X[i].pins + 1 := IntWalk.i64_in _ ⟨by omega, by omega⟩
                  clear hpin hus hs hw hk
                  go_wp2_with fail
                  refine HG.out.mono ?_
                  rintro e w4 ⟨rfl, h4, o4⟩
                  simp only [Option.isSome_some]
                  have hP4 := HP1.out.stepH h4 o4 (fun b q => .inl q)
                  have hR4 := HA.out.kept o4 (fun b q s => HP1.out.fg b s q)
                  have k1 := (o4.cell (p := ⟨bo, 1, none⟩) hbl (fun q => HBF.out bo q rfl)).trans e1
                  have hcl4 := (o4.cell (p := ⟨r, 0, none⟩) hrlt hrF).trans hcl
                  have hfr4 := hR4.free 0
                  have hrlt4 : r < w4.heap.size := hR4.glt r hR4.gr
                  have hrow4 := Has.own hR4.row
                  rw [← HN.out] at hrow4
                  have hbl4 : bo < w4.heap.size := Nat.lt_of_lt_of_le hbl o4.size
                  have HP4 := hide hP4
                  have HR4 := hide hR4
                  have HGP := hide (flat3_get (f := RL.f3) hi).2.2
                  clear h4 o4 hP4 hR4 a1 a2 hcl HG
                  go_wp2_with (at_builtin; refine wpList_append_has rfl _ _ _ rfl RL.undW RL.infW rfl (by decide) rfl rfl (World.ownsRow_nil _ w4.heap.size _ _) hrow4 (flat3_one _) (by omega) (by omega) (Nat.le_refl _) ?_; intro v5 w5 hr5 o5 hat5; rw [Nat.zero_add, List.nil_append] at hr5; obtain ⟨g1, cap1, rfl⟩ := own_form hr5 (by omega); have hb5 := new_below (Below.refl _ _) o5 (fun b q => (hr5.lt b q).1); have hc5 := (hb5.cell (p := ⟨r, 0, none⟩) hrlt4).trans hcl4; have hf5 := (hb5.frozen (p := ⟨r, 0, none⟩) hrlt4).trans hfr4; have hne5 : g1 ≠ r := (fun e => by have := (hr5.lt g1 rfl).1; omega); have d5 : (w5.setCell ⟨r, 0, none⟩ (.slice (some ⟨g1, 0, none⟩) n cap1)).cell? ⟨g1, i * 3 + 2, none⟩ = some (.int .i64 X[i].pins) := (cell_set_ne _ (fun q => hne5 (congrArg Addr.block q))).trans ((hr5.cellAt _ (by omega)).trans HGP.out); have x5 : (w5.setCell ⟨r, 0, none⟩ (.slice (some ⟨g1, 0, none⟩) n cap1)).frozen? ⟨g1, i * 3 + 2, none⟩ = false := (World.frozen?_setCell ..).trans (hr5.frozenAt _))
                  have hend := RL.copy_store HR4.out hb5 hr5 HN.out (S' := X.set i { X[i] with pins := X[i].pins + 1 }) (by simp) (RL.flat_set2 hi { X[i] with pins := X[i].pins + 1 } rfl rfl) ⟨rfl, rfl, rfl, rfl⟩
                  obtain ⟨G6, h6, o6, hG6⟩ := hend
                  have hP6 := HP4.out.stepG h6 o6 hG6
                  have m1 := (o6.cell (p := ⟨bo, 1, none⟩) hbl4 (fun q => HBG.out bo q rfl)).trans k1
                  go_meet
                  exact ⟨by simp, _, L, F, G6, K, hP6, by rw [List.length_set, ← HN.out]; omega, by rw [List.length_set, ← HN.out]; exact hXr, HPS.out, HL.out, HLl.out, m1⟩
                · have q4 : (x == 4) = false := by simp [hx4]
                  clear hx4
                  by_cases hx5 : x = 5
                  · have hpb := HPINS.out X[i] (List.getElem_mem hi)
                    have hun := II.cunpin HP1.out.h y (fun s q => by have := HPINS.out s q; omega)
                    by_cases hp0 : X[i].pins = 0
                    · as_aux_lemma =>
                      subst hx5
                      have hcu : II.canUnpin (slotOf X y) = false := by rw [hs]; simp [II.canUnpin, hp0]
                      rw [hcu, if_neg (by simp)] at hun
                      rw [hp0] at a2
                      have HG := hide hun
                      clear hun hcu hs hw hk hp0 hpb
                      go_wp2_with fail
                      refine HG.out.mono ?_
                      rintro e w4 ⟨rfl, h4, o4⟩
                      have hP4 := HP1.out.stepH h4 o4 (fun b q => .inl q)
                      have k1 := (o4.cell (p := ⟨bo, 1, none⟩) hbl (fun q => HBF.out bo q rfl)).trans e1
                      clear h4 o4
                      go_wp2_with fail
                      go_meet
                      exact ⟨by simp, X, L, F, G, K, hP4, by rw [← HN.out]; omega, by rw [← HN.out]; exact hXr, HPJ.out, HL.out, HLl.out, k1⟩
                    · as_aux_lemma =>
                      subst hx5
                      have hcu : II.canUnpin (slotOf X y) = true := by rw [hs]; simp [II.canUnpin, hp0]
                      have hus : (turnS X y fun s => { s with pins := s.pins - 1 }) = X.set i { X[i] with pins := X[i].pins - 1 } := by rw [← hk]; exact turnS_set HP1.out.h.nodup hi _
                      rw [hcu, if_pos rfl, hus] at hun
                      have HG := hide hun
                      have HPS : Hid (∀ s ∈ X.set i { X[i] with pins := X[i].pins - 1 }, 0 ≤ s.pins ∧ s.pins ≤ ((j + 1 : Nat) : Int)) := hide (fun s q => by
                        rcases List.mem_or_eq_of_mem_set q with q | rfl
                        · exact HPJ.out s q
                        · simp only; omega)
                      have hadd : IntKind.i64.wrap (X[i].pins - 1) = X[i].pins - 1 := IntWalk.i64_in _ ⟨by omega, by omega⟩
                      have hpd : decide ((0 : Int) < X[i].pins) = true := by simp; omega
                      clear hun hcu hus hs hw hk hp0
                      go_wp2_with fail
                      refine HG.out.mono ?_
                      rintro e w4 ⟨rfl, h4, o4⟩
                      have hP4 := HP1.out.stepH h4 o4 (fun b q => .inl q)
                      have hR4 := HA.out.kept o4 (fun b q s => HP1.out.fg b s q)
                      have k1 := (o4.cell (p := ⟨bo, 1, none⟩) hbl (fun q => HBF.out bo q rfl)).trans e1
                      have hcl4 := (o4.cell (p := ⟨r, 0, none⟩) hrlt hrF).trans hcl
                      have hfr4 := hR4.free 0
                      have hrlt4 : r < w4.heap.size := hR4.glt r hR4.gr
                      have hrow4 := Has.own hR4.row
                      rw [← HN.out] at hrow4
                      have hbl4 : bo < w4.heap.size := Nat.lt_of_lt_of_le hbl o4.size
                      have HP4 := hide hP4
                      have HR4 := hide hR4
                      have HGP := hide (flat3_get (f := RL.f3) hi).2.2
                      clear h4 o4 hP4 hR4 a1 a2 hcl HG
                      go_wp2_with (at_builtin; refine wpList_append_has rfl _ _ _ rfl RL.undW RL.infW rfl (by decide) rfl rfl (World.ownsRow_nil _ w4.heap.size _ _) hrow4 (flat3_one _) (by omega) (by omega) (Nat.le_refl _) ?_; intro v5 w5 hr5 o5 hat5; rw [Nat.zero_add, List.nil_append] at hr5; obtain ⟨g1, cap1, rfl⟩ := own_form hr5 (by omega); have hb5 := new_below (Below.refl _ _) o5 (fun b q => (hr5.lt b q).1); have hc5 := (hb5.cell (p := ⟨r, 0, none⟩) hrlt4).trans hcl4; have hf5 := (hb5.frozen (p := ⟨r, 0, none⟩) hrlt4).trans hfr4; have hne5 : g1 ≠ r := (fun e => by have := (hr5.lt g1 rfl).1; omega); have d5 : (w5.setCell ⟨r, 0, none⟩ (.slice (some ⟨g1, 0, none⟩) n cap1)).cell? ⟨g1, i * 3 + 2, none⟩ = some (.int .i64 X[i].pins) := (cell_set_ne _ (fun q => hne5 (congrArg Addr.block q))).trans ((hr5.cellAt _ (by omega)).trans HGP.out); have x5 : (w5.setCell ⟨r, 0, none⟩ (.slice (some ⟨g1, 0, none⟩) n cap1)).frozen? ⟨g1, i * 3 + 2, none⟩ = false := (World.frozen?_setCell ..).trans (hr5.frozenAt _))
                      have hend := RL.copy_store HR4.out hb5 hr5 HN.out (S' := X.set i { X[i] with pins := X[i].pins - 1 }) (by simp) (RL.flat_set2 hi { X[i] with pins := X[i].pins - 1 } rfl rfl) ⟨rfl, rfl, rfl, rfl⟩
                      obtain ⟨G6, h6, o6, hG6⟩ := hend
                      have hP6 := HP4.out.stepG h6 o6 hG6
                      have m1 := (o6.cell (p := ⟨bo, 1, none⟩) hbl4 (fun q => HBG.out bo q rfl)).trans k1
                      go_meet
                      exact ⟨by simp, _, L, F, G6, K, hP6, by rw [List.length_set, ← HN.out]; omega, by rw [List.length_set, ← HN.out]; exact hXr, HPS.out, HL.out, HLl.out, m1⟩
                  · have q5 : (x == 5) = false := by simp [hx5]
                    clear hx5
                    by_cases hx6 : x = 6
                    · as_aux_lemma =>
                      subst hx6
                      have hde := II.cdelete HP1.out.h y
                      rw [hs, hw] at hde
                      have HG := hide hde
                      have HPS : Hid (∀ s ∈ X.eraseIdx i, 0 ≤ s.pins ∧ s.pins ≤ ((j + 1 : Nat) : Int)) := hide (fun s q => HPJ.out _ (List.mem_of_mem_eraseIdx q))
                      have HLN : Hid ((X.eraseIdx i).length + 1 = n) := hide (by rw [List.length_eraseIdx, if_pos hi, HN.out]; omega)
                      clear hde hs hw hk
                      go_wp2_with fail
                      refine HG.out.mono ?_
                      rintro e w4 ⟨rfl, h4, o4⟩
                      simp only [Option.isSome_some]
                      have hP4 := HP1.out.stepH h4 o4 (fun b q => .inl q)
                      have hR4 := HA.out.kept o4 (fun b q s => HP1.out.fg b s q)
                      have k1 := (o4.cell (p := ⟨bo, 1, none⟩) hbl (fun q => HBF.out bo q rfl)).trans e1
                      have hcl4 := (o4.cell (p := ⟨r, 0, none⟩) hrlt hrF).trans hcl
                      have hfr4 := hR4.free 0
                      have hrlt4 : r < w4.heap.size := hR4.glt r hR4.gr
                      have hbl4 : bo < w4.heap.size := Nat.lt_of_lt_of_le hbl o4.size
                      obtain ⟨ii, hii, _, hsz, _⟩ := info_parts RL.infW
                      obtain ⟨u1, hs1, hu1⟩ := (Has.own hR4.row).cutTo (P := Tryz.prog) (hi := i) (by omega) RL.undW hii
                      obtain ⟨u2, hs2, hu2⟩ := (Has.own hR4.row).cutFrom (P := Tryz.prog) (lo := i + 1) (by omega) RL.undW hii hsz
                      rw [flat3_take] at hu1
                      rw [flat3_drop] at hu2
                      obtain ⟨m, hm⟩ : ∃ m, m = X.length - (i + 1) := ⟨_, rfl⟩
                      rw [← hm] at hu2
                      obtain ⟨a1', c1, rfl⟩ := hu1.shape
                      obtain ⟨a2', c2, rfl⟩ := hu2.shape
                      have hs3 : ∀ w' : World, (Instr.slice 28 (.slice (some ⟨g, 0, none⟩) X.length cap) (some (.int .i64 ((i : Int) + 1))) none none).run Tryz.prog w' = .ok (.slice a2' m c2) w' := hs2
                      rw [← HN.out] at hs1 hs3
                      have hadd : IntKind.i64.wrap ((i : Int) + 1) = (i : Int) + 1 := IntWalk.i64_in _ ⟨by omega, by omega⟩
                      have hmm : m ≤ 1000000 := by have := HN.out; omega
                      have hlen : Hid (i + m = (X.eraseIdx i).length) := hide (by rw [List.length_eraseIdx, if_pos hi]; omega)
                      have hlist : Hid (flat3 RL.f3 (X.take i) ++ flat3 RL.f3 (X.drop (i + 1)) = flat3 RL.f3 (X.eraseIdx i)) := hide (by rw [List.eraseIdx_eq_take_drop_succ, flat3_append])
                      have HP4 := hide hP4
                      have HR4 := hide hR4
                      clear h4 o4 hP4 hR4 a1 a2 hcl HG hs2 hii hsz hm
                      go_wp2_with fail
                      have hmix : Tryz.prog.follows .mixedOrders = true := by kernel_rfl
                      have hS4 : (fun w' : World => w'.cell? ⟨r, 0, none⟩ = some (.slice (some ⟨g, 0, none⟩) n cap)) w4.drew := hcl4
                      refine region_n (n := 18) (S := fun w' => w'.cell? ⟨r, 0, none⟩ = some (.slice (some ⟨g, 0, none⟩) n cap)) hmix ?_
                      refine n_step (i := 0) (D := [0, 16, 17]) (by kernel_rfl) (by kernel_rfl) (by kernel_rfl) (by kernel_rfl) (by kernel_rfl) (by decide) (by decide) hS4 ?_
                      refine ⟨?_, ?_, ?_⟩
                      rotate_left
                      focus (simp only [List.getElem?_toArray, List.getElem?_cons_zero]; exact rfl)
                      refine ⟨?_, fun _ _ _ h => h, Or.inl ⟨by rfl, ?_⟩, ?_⟩
                      rotate_left
                      focus (intro w hSw; (try dsimp only at hSw); go_simp; (try with_reducible rfl))
                      simp only [Act.put, List.setIfInBounds_toArray, List.set_cons_succ, List.set_cons_zero]
                      refine n_step (i := 1) (D := [1, 2, 3, 4, 6, 7, 15]) (by kernel_rfl) (by kernel_rfl) (by kernel_rfl) (by kernel_rfl) (by kernel_rfl) (by decide) (by decide) hS4 ?_
                      refine ⟨?_, ?_, ?_⟩
                      rotate_left
                      focus (simp only [List.getElem?_toArray, List.getElem?_cons_succ, List.getElem?_cons_zero]; exact rfl)
                      refine ⟨?_, fun _ _ _ h => h, Or.inl ⟨by rfl, ?_⟩, ?_⟩
                      rotate_left
                      focus (intro w hSw; (try dsimp only at hSw); go_simp; (try with_reducible rfl))
                      simp only [Act.put, List.setIfInBounds_toArray, List.set_cons_succ, List.set_cons_zero]
                      refine n_step (i := 2) (D := [2, 3, 4, 6, 7, 15]) (by kernel_rfl) (by kernel_rfl) (by kernel_rfl) (by kernel_rfl) (by kernel_rfl) (by decide) (by decide) hS4 ?_
                      refine ⟨?_, ?_, ?_⟩
                      rotate_left
                      focus (simp only [List.getElem?_toArray, List.getElem?_cons_succ, List.getElem?_cons_zero]; exact rfl)
                      refine ⟨?_, fun _ _ _ h => h, Or.inl ⟨by rfl, ?_⟩, ?_⟩
                      rotate_left
                      focus (intro w hSw; (try dsimp only at hSw); go_simp; (try with_reducible rfl))
                      simp only [Act.put, List.setIfInBounds_toArray, List.set_cons_succ, List.set_cons_zero]
                      refine n_step (i := 3) (D := [3, 4, 6, 7, 15]) (by kernel_rfl) (by kernel_rfl) (by kernel_rfl) (by kernel_rfl) (by kernel_rfl) (by decide) (by decide) hS4 ?_
                      refine ⟨?_, ?_, ?_⟩
                      rotate_left
                      focus (simp only [List.getElem?_toArray, List.getElem?_cons_succ, List.getElem?_cons_zero]; exact rfl)
                      refine ⟨?_, fun _ _ _ h => h, Or.inl ⟨by rfl, ?_⟩, ?_⟩
                      rotate_left
                      focus (intro w hSw; (try dsimp only at hSw); go_simp; (try with_reducible rfl))
                      simp only [Act.put, List.setIfInBounds_toArray, List.set_cons_succ, List.set_cons_zero]
                      refine n_step (i := 4) (D := [4, 6, 7, 15]) (by kernel_rfl) (by kernel_rfl) (by kernel_rfl) (by kernel_rfl) (by kernel_rfl) (by decide) (by decide) hS4 ?_
                      refine ⟨?_, ?_, ?_⟩
                      rotate_left
                      focus (simp only [List.getElem?_toArray, List.getElem?_cons_succ, List.getElem?_cons_zero]; exact rfl)
                      refine ⟨?_, fun _ _ _ h => h, Or.inl ⟨by rfl, ?_⟩, ?_⟩
                      rotate_left
                      focus (intro w hSw; (try dsimp only at hSw); go_simp; (try with_reducible rfl))
                      simp only [Act.put, List.setIfInBounds_toArray, List.set_cons_succ, List.set_cons_zero]
                      refine n_step (i := 5) (D := [5, 6, 7, 15]) (by kernel_rfl) (by kernel_rfl) (by kernel_rfl) (by kernel_rfl) (by kernel_rfl) (by decide) (by decide) hS4 ?_
                      refine ⟨?_, ?_, ?_⟩
                      rotate_left
                      focus (simp only [List.getElem?_toArray, List.getElem?_cons_succ, List.getElem?_cons_zero]; exact rfl)
                      refine ⟨?_, fun _ _ _ h => h, Or.inl ⟨by rfl, ?_⟩, ?_⟩
                      rotate_left
                      focus (intro w hSw; (try dsimp only at hSw); go_simp; (try with_reducible rfl))
                      simp only [Act.put, List.setIfInBounds_toArray, List.set_cons_succ, List.set_cons_zero]
                      refine n_step (i := 6) (D := [6, 7, 15]) (by kernel_rfl) (by kernel_rfl) (by kernel_rfl) (by kernel_rfl) (by kernel_rfl) (by decide) (by decide) hS4 ?_
                      refine ⟨?_, ?_, ?_⟩
                      rotate_left
                      focus (simp only [List.getElem?_toArray, List.getElem?_cons_succ, List.getElem?_cons_zero]; exact rfl)
                      refine ⟨?_, fun _ _ _ h => h, Or.inl ⟨by rfl, ?_⟩, ?_⟩
                      rotate_left
                      focus (intro w hSw; (try dsimp only at hSw); go_simp; (try with_reducible rfl))
                      simp only [Act.put, List.setIfInBounds_toArray, List.set_cons_succ, List.set_cons_zero]
                      refine n_step (i := 8) (D := [8, 9, 10, 11, 14, 15]) (by kernel_rfl) (by kernel_rfl) (by kernel_rfl) (by kernel_rfl) (by kernel_rfl) (by decide) (by decide) hS4 ?_
                      refine ⟨?_, ?_, ?_⟩
                      rotate_left
                      focus (simp only [List.getElem?_toArray, List.getElem?_cons_succ, List.getElem?_cons_zero]; exact rfl)
                      refine ⟨?_, fun _ _ _ h => h, Or.inl ⟨by rfl, ?_⟩, ?_⟩
                      rotate_left
                      focus (intro w hSw; (try dsimp only at hSw); go_simp; (try with_reducible rfl))
                      simp only [Act.put, List.setIfInBounds_toArray, List.set_cons_succ, List.set_cons_zero]
                      refine n_step (i := 9) (D := [9, 10, 11, 14, 15]) (by kernel_rfl) (by kernel_rfl) (by kernel_rfl) (by kernel_rfl) (by kernel_rfl) (by decide) (by decide) hS4 ?_
                      refine ⟨?_, ?_, ?_⟩
                      rotate_left
                      focus (simp only [List.getElem?_toArray, List.getElem?_cons_succ, List.getElem?_cons_zero]; exact rfl)
                      refine ⟨?_, fun _ _ _ h => h, Or.inl ⟨by rfl, ?_⟩, ?_⟩
                      rotate_left
                      focus (intro w hSw; (try dsimp only at hSw); go_simp; (try with_reducible rfl))
                      simp only [Act.put, List.setIfInBounds_toArray, List.set_cons_succ, List.set_cons_zero]
                      refine n_step (i := 10) (D := [10, 11, 14, 15]) (by kernel_rfl) (by kernel_rfl) (by kernel_rfl) (by kernel_rfl) (by kernel_rfl) (by decide) (by decide) hS4 ?_
                      refine ⟨?_, ?_, ?_⟩
                      rotate_left
                      focus (simp only [List.getElem?_toArray, List.getElem?_cons_succ, List.getElem?_cons_zero]; exact rfl)
                      refine ⟨?_, fun _ _ _ h => h, Or.inl ⟨by rfl, ?_⟩, ?_⟩
                      rotate_left
                      focus (intro w hSw; (try dsimp only at hSw); go_simp; (try with_reducible rfl))
                      simp only [Act.put, List.setIfInBounds_toArray, List.set_cons_succ, List.set_cons_zero]
                      refine n_step (i := 11) (D := [11, 14, 15]) (by kernel_rfl) (by kernel_rfl) (by kernel_rfl) (by kernel_rfl) (by kernel_rfl) (by decide) (by decide) hS4 ?_
                      refine ⟨?_, ?_, ?_⟩
                      rotate_left
                      focus (simp only [List.getElem?_toArray, List.getElem?_cons_succ, List.getElem?_cons_zero]; exact rfl)
                      refine ⟨?_, fun _ _ _ h => h, Or.inl ⟨by rfl, ?_⟩, ?_⟩
                      rotate_left
                      focus (intro w hSw; (try dsimp only at hSw); go_simp; (try with_reducible rfl))
                      simp only [Act.put, List.setIfInBounds_toArray, List.set_cons_succ, List.set_cons_zero]
                      refine n_step (i := 12) (D := [12, 13, 14, 15]) (by kernel_rfl) (by kernel_rfl) (by kernel_rfl) (by kernel_rfl) (by kernel_rfl) (by decide) (by decide) hS4 ?_
                      refine ⟨?_, ?_, ?_⟩
                      rotate_left
                      focus (simp only [List.getElem?_toArray, List.getElem?_cons_succ, List.getElem?_cons_zero]; exact rfl)
                      refine ⟨?_, fun _ _ _ h => h, Or.inl ⟨by rfl, ?_⟩, ?_⟩
                      rotate_left
                      focus (intro w hSw; (try dsimp only at hSw); go_simp; (try with_reducible rfl))
                      simp only [Act.put, List.setIfInBounds_toArray, List.set_cons_succ, List.set_cons_zero]
                      refine n_step (i := 13) (D := [13, 14, 15]) (by kernel_rfl) (by kernel_rfl) (by kernel_rfl) (by kernel_rfl) (by kernel_rfl) (by decide) (by decide) hS4 ?_
                      refine ⟨?_, ?_, ?_⟩
                      rotate_left
                      focus (simp only [List.getElem?_toArray, List.getElem?_cons_succ, List.getElem?_cons_zero]; exact rfl)
                      refine ⟨?_, fun _ _ _ h => h, Or.inl ⟨by rfl, ?_⟩, ?_⟩
                      rotate_left
                      focus (intro w hSw; (try dsimp only at hSw); go_simp; (try with_reducible rfl))
                      simp only [Act.put, List.setIfInBounds_toArray, List.set_cons_succ, List.set_cons_zero]
                      refine n_step (i := 14) (D := [14, 15]) (by kernel_rfl) (by kernel_rfl) (by kernel_rfl) (by kernel_rfl) (by kernel_rfl) (by decide) (by decide) hS4 ?_
                      refine ⟨?_, ?_, ?_⟩
                      rotate_left
                      focus (simp only [List.getElem?_toArray, List.getElem?_cons_succ, List.getElem?_cons_zero]; exact rfl)
                      refine ⟨?_, fun _ _ _ h => h, Or.inl ⟨by rfl, ?_⟩, ?_⟩
                      rotate_left
                      focus (intro w hSw; (try dsimp only at hSw); go_simp; (try with_reducible rfl))
                      simp only [Act.put, List.setIfInBounds_toArray, List.set_cons_succ, List.set_cons_zero]
                      refine n_next (i := 7) (by kernel_rfl) ?_
                      refine ⟨?_, ?_, ?_⟩
                      rotate_left
                      focus (simp only [List.getElem?_toArray, List.getElem?_cons_succ, List.getElem?_cons_zero]; exact rfl)
                      intro K7 hK7
                      refine step_append_has (by rfl) _ (.tmp 233) _ (by rfl) RL.undW RL.infW rfl (by decide) (by rfl) (by rfl) (World.ownsRow_nil _ w4.heap.size _ _) hu1.drew (flat3_one _) (by omega) (by omega) (Nat.le_refl _) ?_
                      intro v5 w5 hr5 o5 hat5
                      rw [Nat.zero_add, List.nil_append] at hr5
                      obtain ⟨a5, c5, rfl⟩ := own_shape hr5
                      have hb5 := new_below ((Only.drew (fun _ => False) w4).below (Nat.le_refl _) (fun _ q => q.elim)) o5 (fun b q => (hr5.lt b q).1)
                      have hc5 := (hb5.cell (p := ⟨r, 0, none⟩) hrlt4).trans hcl4
                      have hz5 : w4.heap.size ≤ w5.heap.size := hb5.size
                      refine hK7 _ _ ⟨fun _ => hc5, ?_⟩
                      clear hK7 K7 hS4
                      simp only [Act.put, List.setIfInBounds_toArray, List.set_cons_zero, List.set_cons_succ]
                      refine n_next (i := 15) (by kernel_rfl) ?_
                      refine ⟨?_, ?_, ?_⟩
                      rotate_left
                      focus (simp only [List.getElem?_toArray, List.getElem?_cons_succ, List.getElem?_cons_zero]; exact rfl)
                      intro K7 hK7
                      refine step_append_has (by rfl) _ (.tmp 241) _ (by rfl) RL.undW RL.infW rfl (by decide) (by rfl) (by rfl) hr5 (hu2.below hb5) (flat3_one _) (by omega) (by omega) hz5 ?_
                      intro v6 w6 hr6 o6 hat6
                      obtain ⟨a6, c6, rfl⟩ := own_shape hr6
                      have hb6 := new_below hb5 o6 (fun b q => (hr6.lt b q).1)
                      have hc6 := (hb6.cell (p := ⟨r, 0, none⟩) hrlt4).trans hcl4
                      have hf6 := (hb6.frozen (p := ⟨r, 0, none⟩) hrlt4).trans hfr4
                      refine hK7 _ _ ⟨fun _ => hc6, ?_⟩
                      clear hK7 K7
                      simp only [Act.put, List.setIfInBounds_toArray, List.set_cons_zero, List.set_cons_succ]
                      refine n_step (i := 16) (D := [16, 17]) (by kernel_rfl) (by kernel_rfl) (by kernel_rfl) (by kernel_rfl) (by kernel_rfl) (by decide) (by decide) hc6 ?_
                      refine ⟨?_, ?_, ?_⟩
                      rotate_left
                      focus (simp only [List.getElem?_toArray, List.getElem?_cons_succ, List.getElem?_cons_zero]; exact rfl)
                      refine ⟨?_, fun _ _ _ h => h, Or.inl ⟨by rfl, ?_⟩, ?_⟩
                      rotate_left
                      focus (intro w hSw; (try dsimp only at hSw); go_simp; (try with_reducible rfl))
                      simp only [Act.put, List.setIfInBounds_toArray, List.set_cons_succ, List.set_cons_zero]
                      refine n_step (i := 17) (D := [17]) (by kernel_rfl) (by kernel_rfl) (by kernel_rfl) (by kernel_rfl) (by kernel_rfl) (by decide) (by decide) hc6 ?_
                      refine ⟨?_, ?_, ?_⟩
                      rotate_left
                      focus (simp only [List.getElem?_toArray, List.getElem?_cons_succ, List.getElem?_cons_zero]; exact rfl)
                      refine ⟨?_, fun _ _ _ h => h, Or.inl ⟨by rfl, ?_⟩, ?_⟩
                      rotate_left
                      focus (intro w hSw; (try dsimp only at hSw); go_simp; (try with_reducible rfl))
                      simp only [Act.put, List.setIfInBounds_toArray, List.set_cons_succ, List.set_cons_zero]
                      refine n_next (i := 18) (by kernel_rfl) ?_
                      refine ⟨?_, ?_, ?_⟩
                      rotate_left
                      focus (simp only [List.getElem?_toArray, List.getElem?_cons_succ, List.getElem?_cons_zero]; exact rfl)
                      intro K7 hK7
                      go_simp
                      refine hK7 _ _ ⟨fun h => absurd rfl h, ?_⟩
                      clear hK7 K7
                      refine n_done (by kernel_rfl) ?_ _
                      all_goals
                        rw [hlist.out] at hr6
                        have hend := RL.use_end HR4.out (Below.refl _ _) hb6 (by rw [← hlen.out]; exact hr6) ⟨rfl, rfl, rfl, rfl⟩
                        obtain ⟨G7, h7, o7, hG7⟩ := hend
                        have hP7 := HP4.out.stepG h7 o7 hG7
                        have m1 := (o7.cell (p := ⟨bo, 1, none⟩) hbl4 (fun q => HBG.out bo q rfl)).trans k1
                        go_wp2_with fail
                        go_meet
                        exact ⟨by simp, _, L, F, G7, K, hP7, by have := HLN.out; omega, by have := HLN.out; omega, HPS.out, HL.out, HLl.out, m1⟩
                    · as_aux_lemma =>
                      have q6 : (x == 6) = false := by simp [hx6]
                      clear hx6 hs hw hk
                      go_wp2_with fail
                      go_meet
                      exact ⟨by simp, X, L, F, G, K, HP1.out, by rw [← HN.out]; omega, by rw [← HN.out]; exact hXr, HPJ.out, HL.out, HLl.out, e1⟩
            · have hix := HIX.out.trans hx
              clear HIX hx
              subst hix
              by_cases hx2 : x = 2
              · as_aux_lemma =>
                subst hx2
                have hget := II.cget HP1.out.h y
                have hus : useS X y = X := by simp [useS, hs]
                rw [hs, hus] at hget
                have HG := hide hget
                clear hget hus hs
                go_wp2_with fail
                refine HG.out.mono ?_
                rintro e w4 ⟨rfl, h4, o4⟩
                simp only [II.valOf, Option.isSome_none]
                have hP4 := HP1.out.stepH h4 o4 (fun b q => .inl q)
                have k1 := (o4.cell (p := ⟨bo, 1, none⟩) hbl (fun q => HBF.out bo q rfl)).trans e1
                clear h4 o4
                go_wp2_with fail
                go_meet
                exact ⟨by simp, X, L, F, G, K, hP4, by omega, hXr, HPJ.out, HL.out, HLl.out, k1⟩
              · have q2 : (x == 2) = false := by simp [hx2]
                clear hx2
                by_cases hx4 : x = 4
                · as_aux_lemma =>
                  subst hx4
                  have hpin := II.cpin HP1.out.h y (fun s q => by rw [hs] at q; cases q)
                  have hus : (turnS X y fun s => { s with pins := s.pins + 1 }) = X := turnS_none (fun s q e => by rw [← e, slotOf_mem HP1.out.h.nodup q] at hs; cases hs) _
                  rw [hs, hus] at hpin
                  have HG := hide hpin
                  clear hpin hus hs
                  go_wp2_with fail
                  refine HG.out.mono ?_
                  rintro e w4 ⟨rfl, h4, o4⟩
                  simp only [Option.isSome_none]
                  have hP4 := HP1.out.stepH h4 o4 (fun b q => .inl q)
                  have k1 := (o4.cell (p := ⟨bo, 1, none⟩) hbl (fun q => HBF.out bo q rfl)).trans e1
                  clear h4 o4
                  go_wp2_with fail
                  go_meet
                  exact ⟨by simp, X, L, F, G, K, hP4, by omega, hXr, HPJ.out, HL.out, HLl.out, k1⟩
                · have q4 : (x == 4) = false := by simp [hx4]
                  clear hx4
                  by_cases hx5 : x = 5
                  · as_aux_lemma =>
                    subst hx5
                    have hun := II.cunpin HP1.out.h y (fun s q => by have := HPINS.out s q; omega)
                    have hcu : II.canUnpin (slotOf X y) = false := by rw [hs]; rfl
                    rw [hcu, if_neg (by simp)] at hun
                    have HG := hide hun
                    clear hun hcu hs
                    go_wp2_with fail
                    refine HG.out.mono ?_
                    rintro e w4 ⟨rfl, h4, o4⟩
                    have hP4 := HP1.out.stepH h4 o4 (fun b q => .inl q)
                    have k1 := (o4.cell (p := ⟨bo, 1, none⟩) hbl (fun q => HBF.out bo q rfl)).trans e1
                    clear h4 o4
                    go_wp2_with fail
                    go_meet
                    exact ⟨by simp, X, L, F, G, K, hP4, by omega, hXr, HPJ.out, HL.out, HLl.out, k1⟩
                  · have q5 : (x == 5) = false := by simp [hx5]
                    clear hx5
                    by_cases hx6 : x = 6
                    · as_aux_lemma =>
                      subst hx6
                      have hde := II.cdelete HP1.out.h y
                      have hus : without X y = X := without_none (fun s q e => by rw [← e, slotOf_mem HP1.out.h.nodup q] at hs; cases hs)
                      rw [hs, hus] at hde
                      have HG := hide hde
                      clear hde hus hs
                      go_wp2_with fail
                      refine HG.out.mono ?_
                      rintro e w4 ⟨rfl, h4, o4⟩
                      simp only [Option.isSome_none]
                      have hP4 := HP1.out.stepH h4 o4 (fun b q => .inl q)
                      have k1 := (o4.cell (p := ⟨bo, 1, none⟩) hbl (fun q => HBF.out bo q rfl)).trans e1
                      clear h4 o4
                      go_wp2_with fail
                      go_meet
                      exact ⟨by simp, X, L, F, G, K, hP4, by omega, hXr, HPJ.out, HL.out, HLl.out, k1⟩
                    · as_aux_lemma =>
                      have q6 : (x == 6) = false := by simp [hx6]
                      clear hx6 hs
                      go_wp2_with fail
                      go_meet
                      exact ⟨by simp, X, L, F, G, K, HP1.out, by omega, hXr, HPJ.out, HL.out, HLl.out, e1⟩
        case rest =>
          as_aux_lemma =>
          clear HP1 HBF HBG HPINS hbl e0 e1 e2 HPI HL HLl hX hXr HBO HIX w3
          obtain ⟨rfl, X, L, F, G, K, hP, hX, hXr, hpins, hL, hLl, e1⟩ := hcut
          have HL := hide hL
          have HLl := hide hLl
          have HPINS := hide hpins
          have HP := hide hP
          obtain ⟨v, hv⟩ := hP.g
          obtain ⟨va, vc, rfl⟩ := own_shape hv.row
          have hcl := hv.cl
          have HV := hide hv
          have hpk := II.cpeek hP.h y
          have hfi := RL.find_any hP.g (by omega) y
          have hpn : ∀ n : Nat, Calls Tryz.prog 16 #[.pointer (some ⟨c, 0, none⟩), .int .i64 y] (wc.drewN n) fun e w' => e = .returned (.int .i64 (II.pinsOf (slotOf X y))) ∧ w' = wc.drewN n := fun n =>
            (II.cpinned (hP.h.kept (Like.only (w' := wc.drewN n) (w := wc) ⟨rfl, rfl, rfl, rfl⟩ (fun _ => False)) (fun _ _ q => q)) y).mono fun e w' ⟨a, b⟩ => ⟨a, b.symm⟩
          obtain ⟨n, hn⟩ : ∃ n, n = X.length := ⟨_, rfl⟩
          rw [← hn] at hcl hX hXr
          have HN := hide hn
          have HXX := hide (show X.length ≤ j + 1 by omega)
          clear hv hP hL hLl hn t1 hpins
          obtain ⟨wo, hwo⟩ : ∃ wo : World, wo = wc := ⟨_, rfl⟩
          subst hwo
          have hnd := HP.out.h.nodup
          rcases RL.idx_slot hnd y with ⟨i, hi, hx, hs, hk, hw⟩ | ⟨hx, hs⟩
          case' inl =>
            rw [hx] at hfi
            rw [hs] at hpk hpn
            simp only [show ∀ s : Slot Int Int, II.pinsOf (some s) = s.pins from fun _ => rfl] at hpn
            obtain ⟨g, cp, e, c0, c1, c2⟩ := HV.out.at_ hi
            rw [← HN.out] at e
            cases e
            have a1 : wo.cell? ⟨g, i * 3 + 1, none⟩ = some (.int .i64 X[i].v) := c1
            have a2 : wo.cell? ⟨g, i * 3 + 2, none⟩ = some (.int .i64 X[i].pins) := c2
            have hi0 : (0 : Int) ≤ i := by omega
            have hin : (i : Int) < n := by have := HN.out; omega
            have hin2 : i < n := by have := HN.out; omega
            have HPK := hide hpk
            have HFI := hide hfi
            have HPN := hide hpn
            clear hpk hfi hpn c0 c1 c2 hnd hx hs hk hw
            go_wp2_with fail
            refine HFI.out.mono ?_
            rintro e w' ⟨rfl, rfl⟩
            go_wp2_with fail
            refine HPK.out.mono ?_
            rintro e w' ⟨rfl, rfl⟩
            simp only [II.valOf, Option.isSome_some]
            go_wp2_with fail
            go_quiet ((go_at_call 16; exact Calls.quiet_of_same (HPN.out _)))
            go_wp2_with fail
          case' inr =>
            rw [hx] at hfi
            rw [hs] at hpk hpn
            simp only [show II.pinsOf none = 0 from rfl] at hpn
            have HPK := hide hpk
            have HFI := hide hfi
            have HPN := hide hpn
            clear hpk hfi hpn hnd hx hs
            go_wp2_with fail
            refine HFI.out.mono ?_
            rintro e w' ⟨rfl, rfl⟩
            go_wp2_with fail
            refine HPK.out.mono ?_
            rintro e w' ⟨rfl, rfl⟩
            simp only [II.valOf, Option.isSome_none]
            go_wp2_with fail
            go_quiet ((go_at_call 16; exact Calls.quiet_of_same (HPN.out _)))
            go_wp2_with fail
          all_goals as_aux_lemma =>
            have HP5 := hide (HP.out.like (w' := wo.drewN nq) ⟨rfl, rfl, rfl, rfl⟩)
            have HV5 := hide (HV.out.like (w' := wo.drewN nq) ⟨rfl, rfl, rfl, rfl⟩)
            clear hcl HV HP e1
            generalize (wo.drewN nq) = wl at *
            have hcl6 := HV5.out.cl
            obtain ⟨m, hm⟩ : ∃ m, m = X.length := ⟨_, rfl⟩
            rw [← hm] at hcl6
            have hmj : m ≤ j + 1 := by have := HXX.out; omega
            have HM := hide hm
            have hmr : (m : Int) ≤ rm' := by have := HN.out; omega
            clear hm HXX
            have hrl : r < wl.heap.size := lt_of_cell hcl6
            go_loopw [27, 28] (fun v i wq => ∃ t : Nat, t ≤ m ∧ i = .int .i64 t ∧ wq.ownsRow wl.heap.size 3 1 v t (ints ((X.take t).map (·.k))) ∧ Only (fun b => wl.heap.size ≤ b) wl wq) (fun _ i _ => m - (intOf i).toNat)
            case atStart => exact ⟨0, Nat.zero_le _, rfl, World.ownsRow_nil _ _ _ _, Only.refl _ _⟩
            case round =>
              obtain ⟨t, ht, rfl, hrow, hoq⟩ := hrel
              have hclq := (hoq.cell (p := ⟨r, 0, none⟩) hrl (Nat.not_le.2 hrl)).trans hcl6
              have hsz := hoq.size
              by_cases hlt2 : t < m
              · have htX : t < X.length := by have := HM.out; omega
                obtain ⟨g6, cp6, e, x0, x1, x2⟩ := HV5.out.at_ htX
                clear x1 x2
                rw [← HM.out] at e
                have y2 : wr.cell? ⟨g6, t * 3, none⟩ = some (.int .i64 X[t].k) := (hoq.cell (p := ⟨g6, t * 3, none⟩) (lt_of_cell x0) (Nat.not_le.2 (lt_of_cell x0))).trans x0
                clear x0
                have htk : Hid (ints ((X.take (t + 1)).map (·.k)) = ints ((X.take t).map (·.k)) ++ [.int .i64 X[t].k]) := hide (by rw [List.take_succ_eq_append_getElem htX, List.map_append]; simp only [ints, List.map_append]; rfl)
                have htm : (t : Int) < m := by omega
                generalize X[t].k = xv at *
                cases e
                go_wp2_with (at_builtin; refine wpList_append_one rfl _ _ _ rfl wl.heap.size 3 (.int .i64 0) 8 BK.und1 BK.inf1 rfl _ _ _ rfl hrow _ _ rfl rfl (by omega) (by omega) hsz ?_; intro v' w7 hrow7 o7 hloc)
                have o8 : Only (fun b => wl.heap.size ≤ b) wl w7 := hoq.trans (o7.mono fun b _ q => (hrow.lt b q).1)
                rw [← htk.out] at hrow7
                clear o7 hrow hoq hclq y2 hloc
                go_wp2_with fail
                go_roundw
                case rel => exact ⟨t + 1, hlt2, by go_num, hrow7, o8⟩
                case measure => simp [intOf]; omega
              · obtain rfl : t = m := by omega
                have hP6 := HP5.out.new hoq (fun b q => q) HP5.out.h.flt HP5.out.glt HP5.out.k.klt HP5.out.below.size
                rw [List.take_of_length_le (by rw [← HM.out]; exact Nat.le_refl _)] at hrow
                have hlist := II.ckeys hP6.h (by rw [← HM.out]; omega)
                have hmap : X.map (fun s => II.K s.k) = ints (X.map (·.k)) := by simp [ints]
                obtain ⟨zs, hzs⟩ : ∃ zs, zs = X.map (·.k) := ⟨_, rfl⟩
                have hzl : zs.length = t := by rw [hzs, List.length_map]; exact HM.out.symm
                rw [hmap, ← HM.out, ← hzs] at hlist
                rw [← hzl] at hlist
                rw [← hzs] at hrow
                obtain ⟨xa, xc, rfl⟩ := own_shape hrow
                have hrow2 : wr.ownsRow wl.heap.size 3 1 (.slice xa t xc) zs.length (ints zs) := by rw [hzl]; exact hrow
                have HROW := hide hrow2
                have HP6 := hide hP6
                have HZL := hide hzl
                have hll : zs.length ≤ 1000 := by omega
                clear hrow hrow2 hP6 hoq hmap hzs hzl
                go_wp2_with fail
                clear hclq
                refine hlist.mono ?_
                clear hlist
                rintro e w7 ⟨lv, rfl, hlv, o7⟩
                have hP7 := HP6.out.only o7
                have hROW7 := ownsRow_only HROW.out o7 (fun _ _ q => q)
                have hltl : ∀ b, lv.ownBlock = some b → wr.heap.size ≤ b := fun b q => (hlv.lt b q).1
                have hkeep := BK.ints_any hP7.k (by rw [HL.out]; omega) (row_lower hlv (Nat.zero_le _)) (by omega) (fun b q s => by have := hltl b q; have := HP6.out.k.klt b s; omega)
                have hH7 := Has.own hlv
                have hX7 := Has.own hROW7
                have HP7 := hide hP7
                obtain ⟨la, lc, rfl⟩ := own_shape hlv
                have hsz7 := o7.size
                have hrowlt : ∀ b, (Value.slice xa t xc).ownBlock = some b → wl.heap.size ≤ b := fun b q => (HROW.out.lt b q).1
                clear hlv hROW7 hP7 o7
                go_wp2_with fail
                refine hkeep.mono ?_
                clear hkeep
                rintro e w8 ⟨rfl, K8, h8, o8, hK8⟩
                have hP8 := HP7.out.stepK h8 o8 hK8 hltl HP6.out.h.flt HP6.out.glt HP6.out.below.size
                have hA8 := hH7.only o8 (fun b q s => by have := hltl b q; have := HP6.out.k.klt b s; omega)
                have hB8 := hX7.only o8 (fun b q s => by have := hrowlt b q; have := HP5.out.k.klt b s; omega)
                have hcx8 : w8.cell? ⟨r, 1, none⟩ = some (.int .i64 rm') := by obtain ⟨v8, q8⟩ := hP8.g; exact q8.cx
                have hLen8 : ∀ n : Nat, Calls Tryz.prog 20 #[.pointer (some ⟨c, 0, none⟩)] (w8.drewN n) fun e w' => e = .returned (.int .i64 t) ∧ w' = w8.drewN n := fun n => by
                  have := II.clen (hP8.h.kept (Like.only (w' := w8.drewN n) (w := w8) ⟨rfl, rfl, rfl, rfl⟩ (fun _ => False)) (fun _ _ q => q))
                  rw [← HM.out] at this
                  exact this.mono fun e w' ⟨a, b⟩ => ⟨a, b.symm⟩
                have hRoom8 : ∀ n : Nat, Calls Tryz.prog 21 #[.pointer (some ⟨c, 0, none⟩)] (w8.drewN n) fun e w' => e = .returned (.int .i64 rm') ∧ w' = w8.drewN n := fun n =>
                  (II.croom (hP8.h.kept (Like.only (w' := w8.drewN n) (w := w8) ⟨rfl, rfl, rfl, rfl⟩ (fun _ => False)) (fun _ _ q => q))).mono fun e w' ⟨a, b⟩ => ⟨a, b.symm⟩
                have HLEN8 := hide hLen8
                have HROOM8 := hide hRoom8
                have HP8 := hide hP8
                have hLn : (L ++ [zs]).length = j + 1 := by rw [List.length_append, HL.out]; rfl
                have hLn2 : ∀ l ∈ L ++ [zs], l.length ≤ 1000 := fun l hl => by
                  rcases List.mem_append.1 hl with hl | hl
                  · exact HLl.out l hl
                  · rw [List.mem_singleton.1 hl]; exact hll
                have HLn := hide hLn
                have HLn2 := hide hLn2
                have hzs2 : zs.length ≤ 1000000 := by omega
                clear hP8 h8 o8 hH7 hX7 hK8 HP7 HROW hltl hrowlt hLen8 hRoom8 hLn hLn2
                go_wp2_with fail
                go_quiet ((first
                  | (go_at_call 19; exact Calls.quiet_of (BK.same_any (hA8.drewN _) (hB8.drewN _) hzs2))
                  | (go_at_call 20; exact Calls.quiet_of_same (HLEN8.out _))
                  | (go_at_call 21; exact Calls.quiet_of_same (HROOM8.out _))))
                go_wp2_with fail
                go_roundw
                case rel => exact ⟨j + 1, hlt, by go_num, X, L ++ [zs], F, G, K8, HP8.out.like (w' := w8.drewN nq) ⟨rfl, rfl, rfl, rfl⟩, by rw [← HM.out]; exact hmj, by rw [← HM.out]; exact hmr, HPINS.out, HLn.out, HLn2.out⟩
                case measure => simp [intOf]; omega
      · as_aux_lemma =>
        obtain rfl : j = len1 := by omega
        obtain ⟨X, L, F, G, K, hPI, hX, hXr, hpins, hL, hLl⟩ := hp
        have HLl := hide hLl
        have HL := hide hL
        clear hLl hL hpins hX hXr
        go_wp2_with fail
        refine (II.alive_any _).mono ?_
        rintro e w3 ⟨rfl, hb⟩
        have hK3 := hPI.k.kept (Below.only hb) (fun b q => Nat.not_le.2 (hPI.k.klt b q))
        have hB3 := hPI.below.trans (hb.mono hPI.below.size)
        have kn := hPI.kn
        clear hPI hb
        go_wp2_with fail
        refine (BK.apart_any hK3 (by rw [HL.out]; omega) (fun l q => Nat.le_trans (HLl.out l q) (by omega))).mono ?_
        rintro e w4 ⟨rfl, o4⟩
        have hB4 := new_below hB3 o4 kn
        clear hK3 o4 hB3
        go_wp2_with fail
        go_ret
        exact ⟨rfl, hB4⟩

set_option maxRecDepth 100000 in
/-- The statement's walk. -/
theorem plays_walk (room0 : Int) (_w0 : (Lit.int .i64 room0).wf = true) (zero : Bool) (a1 : Option Addr) (len1 cap1 : Nat) {w : World} (t1 : ArgCells w a1 len1 3) :
    Calls Tryz.prog 3 #[.int .i64 room0, .bool zero, .slice a1 len1 cap1] w fun e w' => e = .returned (.bool true) ∧ Below w.heap.size w w' := by
  by_cases h3 : 120 < (len1 : Int)
  · clear t1
    go_enter Tryz.func3, Tryz.ntmps3
    go_wp2_with fail
    refine (II.alive_any _).mono ?_
    rintro e w3 ⟨rfl, hb⟩
    go_wp2_with fail
    go_ret
    exact ⟨rfl, hb⟩
  refine plays_main room0 zero a1 len1 cap1 w (fun i hi => ?_) (by omega)
  obtain ⟨b, off, rfl, h⟩ := t1 i hi
  obtain ⟨x, hx, _⟩ := h 0 (by omega)
  obtain ⟨y, hy, _⟩ := h 1 (by omega)
  obtain ⟨z, hz, _⟩ := h 2 (by omega)
  exact ⟨b, off, x, y, z, rfl, hx, hy, hz⟩

end LP
end Go.Proofs.YtdgnfdheofacgaaGreat
