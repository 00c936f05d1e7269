/- LruKeeps: what is pinned is never let go; there are never more than have room; the key that was used last is there: the walk of the statement. -/
import Derived.Test.YtdgnfdheofacgaaAlive5
import Derived.Test.YtdgnfdheofacgaaTSI
import Derived.Test.YtdgnfdheofacgaaOwn
namespace Go.Proofs.Ytdgnfdheofacgaa
open Go.RowKit

/-- What the walk is told of a slice of texts that came in. -/
def IsTexts (w : World) (a : Option Addr) (len cap : Nat) (zs : List ByteArray) : Prop :=
  (a = none ∧ len = 0 ∧ cap = 0 ∧ zs = []) ∨
  ∃ x, a = some x ∧ len ≤ cap ∧ cap ≤ maxLen ∧ zs.length = cap ∧ (∀ i, i < zs.length → w.cell? (x.add i) = some (.string (zs.getD i ByteArray.empty))) ∧ ∀ n ∈ zs, n.size ≤ maxLen

/-- Element i of it. -/
theorem IsTexts.at {w : World} {a : Option Addr} {len cap : Nat} {zs : List ByteArray} (h : IsTexts w a len cap zs) {i : Nat} (hi : i < len) :
    ∃ b off, a = some ⟨b, off, none⟩ ∧ w.cell? ⟨b, off + i, none⟩ = some (.string (zs.getD i ByteArray.empty)) := by
  rcases h with ⟨_, rfl, _⟩ | ⟨x, rfl, h1, _, h3, h4, _⟩
  · omega
  · have h0 := h4 0 (by omega)
    have hi' := h4 i (by omega)
    obtain ⟨b, off, spot⟩ := x
    have hs : spot = none := by
      cases spot with
      | none => rfl
      | some q =>
        simp only [Addr.add, if_pos] at h0
        simp [World.cell?] at h0
        split at h0 <;> simp at h0
    subst hs
    refine ⟨b, off, rfl, ?_⟩
    by_cases e : i = 0
    · subst e; simpa [Addr.add] using hi'
    · simpa [Addr.add, e] using hi'

namespace SI

theorem info9 : (Try.prog.info? 9).map (fun i => (i.zero, i.size, i.bytes)) = some (some (.string ⟨#[]⟩), 1, 16) := by kernel_rfl

/-- the keys that are held -/
def Held (S : List (Slot ByteArray Int)) (l : List ByteArray) : Prop := ∀ k ∈ l, ∃ s ∈ S, s.k = k ∧ s.pins ≠ 0

/-- What one round of the first loop does to the list. -/
theorem first_put {room : Int} {S : List (Slot ByteArray Int)} {z : List ByteArray} {k : Nat} {key : ByteArray} (hk : key = z.getD k ByteArray.empty) (hlz : k < z.length) (hroom : (k : Int) < room) (hn : (S.map (·.k)).Nodup)
    (hlen : S.length ≤ k) (hheld : Held S (z.take k)) (hpins : ∀ s ∈ S, 0 ≤ s.pins ∧ s.pins ≤ k) :
    (putS room S key (k : Int)).2.2 = true ∧ (slotOf (putS room S key (k : Int)).1 key).isSome = true ∧ (∀ s ∈ (putS room S key (k : Int)).1, 0 ≤ s.pins ∧ s.pins ≤ k) ∧
      ((turnS (putS room S key (k : Int)).1 key fun s => { s with pins := s.pins + 1 }).length ≤ k + 1 ∧ Held (turnS (putS room S key (k : Int)).1 key fun s => { s with pins := s.pins + 1 }) (z.take (k + 1)) ∧
        ∀ s ∈ (turnS (putS room S key (k : Int)).1 key fun s => { s with pins := s.pins + 1 }), 0 ≤ s.pins ∧ s.pins ≤ (k + 1 : Nat)) := by
  have hdone : (putS room S key (k : Int)).2.2 = true := by
    rcases putS_cases room S key (k : Int) with ⟨s, hs, e⟩ | ⟨hs, ⟨e, h⟩ | ⟨_, _, x, _, e⟩ | ⟨_, _, e⟩⟩
    · rw [e]
    · rcases h with h | ⟨h, _⟩ <;> omega
    · rw [e]
    · rw [e]
  have hthere : (slotOf (putS room S key (k : Int)).1 key).isSome = true := (putS_done room S key (k : Int)).trans hdone
  have hp : ∀ s ∈ (putS room S key (k : Int)).1, 0 ≤ s.pins ∧ s.pins ≤ k := by
    intro s hs
    rcases putS_mem hs with ⟨_, h | ⟨t, ht, _, h⟩⟩ | h
    · omega
    · have := hpins t ht; omega
    · exact hpins s h
  refine ⟨hdone, hthere, hp, ?_, ?_, ?_⟩
  · rw [turnS, List.length_map]
    rcases putS_cases room S key (k : Int) with ⟨s, hs, e⟩ | ⟨hs, ⟨e, h⟩ | ⟨_, h, x, _, e⟩ | ⟨_, _, e⟩⟩
    · rw [e]
      have := without_length hn (slotOf_some hs).1
      rw [(slotOf_some hs).2] at this
      simp only [List.length_cons]; omega
    · rcases h with h | ⟨h, _⟩ <;> omega
    · omega
    · rw [e]; simp only [List.length_cons]; omega
  · have up : ∀ t ∈ (putS room S key (k : Int)).1, 0 ≤ t.pins → (t.pins ≠ 0 ∨ t.k = key) → ∃ s ∈ (turnS (putS room S key (k : Int)).1 key fun s => { s with pins := s.pins + 1 }), s.k = t.k ∧ s.pins ≠ 0 := by
      intro t ht h0 h
      by_cases e : t.k = key
      · exact ⟨{ t with pins := t.pins + 1 }, List.mem_map.2 ⟨t, ht, by simp [e]⟩, rfl, by simp only; omega⟩
      · exact ⟨t, List.mem_map.2 ⟨t, ht, by simp [e]⟩, rfl, h.elim id (fun q => absurd q e)⟩
    intro q hq
    rw [List.take_succ_eq_append_getElem hlz, List.mem_append, List.mem_singleton] at hq
    rcases hq with hq | hq
    · obtain ⟨s, hs, rfl, hs0⟩ := hheld q hq
      obtain ⟨t, ht, e1, e2⟩ := putS_stays (room := room) (k := key) (v := (k : Int)) hn hs hs0
      obtain ⟨s', hs', e3, e4⟩ := up t ht (hp t ht).1 (.inl (by rw [e2]; exact hs0))
      exact ⟨s', hs', e3.trans e1, e4⟩
    · have e : q = key := by rw [hk, hq, List.getD_eq_getElem?_getD, List.getElem?_eq_getElem hlz]; rfl
      subst e
      obtain ⟨t, ht⟩ := Option.isSome_iff_exists.1 hthere
      obtain ⟨s', hs', e3, e4⟩ := up t (slotOf_some ht).1 (hp t (slotOf_some ht).1).1 (.inr (slotOf_some ht).2)
      exact ⟨s', hs', e3.trans (slotOf_some ht).2, e4⟩
  · intro s hs
    obtain ⟨t, ht, rfl⟩ := List.mem_map.1 hs
    have := hp t ht
    split
    · simp only; omega
    · omega

theorem bytes_toList {a b : ByteArray} (h : a.toList = b.toList) : a = b := by
  rw [ByteArray.toList_eq, ByteArray.toList_eq] at h
  exact WideShapes.bytes_inj h

/-- What one round of the second loop does to the list. -/
theorem later_put {room : Int} {S : List (Slot ByteArray Int)} {l : List ByteArray} {key : ByteArray} {v : Int} (hn : (S.map (·.k)).Nodup) (hlen : (S.length : Int) ≤ room) (hheld : Held S l) (hp0 : ∀ s ∈ S, 0 ≤ s.pins) :
    ((putS room S key v).1.length : Int) ≤ room ∧ Held (putS room S key v).1 l ∧ (∀ s ∈ (putS room S key v).1, 0 ≤ s.pins) ∧ True := by
  refine ⟨putS_length hn hlen, fun k hk => ?_, fun s hs => ?_, trivial⟩
  · obtain ⟨s, hs, rfl, h0⟩ := hheld k hk
    obtain ⟨t, ht, e1, e2⟩ := putS_stays (room := room) (k := key) (v := v) hn hs h0
    exact ⟨t, ht, e1, by rw [e2]; exact h0⟩
  · rcases putS_mem hs with ⟨_, h | ⟨t, ht, _, h⟩⟩ | h
    · omega
    · have := hp0 t ht; omega
    · exact hp0 s h

set_option maxRecDepth 100000 in
set_option maxHeartbeats 4000000 in
theorem keeps_main (room : Int) (a1 : Option Addr) (len1 cap1 : Nat) (z1 : List ByteArray) (a2 : Option Addr) (len2 cap2 : Nat) (z2 : List ByteArray) (w : World)
    (t1 : IsTexts w a1 len1 cap1 z1) (t2 : IsTexts w a2 len2 cap2 z2) (h1 : 1 ≤ room) (h2 : room ≤ 60) (h3 : len1 ≤ 60) (h4 : len2 ≤ 100) :
    Calls Try.prog 4 #[.int .i64 room, .slice a1 len1 cap1, .slice a2 len2 cap2] w fun e w' => e = .returned (.bool true) ∧ Below w.heap.size w w' := by
  have g1 : ¬ room < 1 := by omega
  have g2 : ¬ 60 < room := by omega
  have g3 : ¬ 60 < (len1 : Int) := by omega
  have g4 : ¬ 100 < (len2 : Int) := by omega
  obtain ⟨i0, hi, hz0, hz1, hz2⟩ := info_parts info9
  have HI := hide hi
  have HZ0 := hide hz0
  have HZ1 := hide hz1
  have HZ2 := hide hz2
  clear hi hz0 hz1 hz2
  have hcap : cap room = room := by unfold cap; omega
  have HC := hide hcap
  clear hcap
  go_enter Try.func4, Try.ntmps4
  go_wp2_with fail
  refine (new_any room w).mono ?_
  rintro e w1 ⟨c, F0, rfl, h0, o0, hF0⟩
  rw [HC.out] at h0
  have b0 := Below.then_only (Nat.le_refl _) (Below.refl _ _) o0 (fun b q => q.elim)
  clear o0
  go_wp2_with fail
  go_loopw [8, 9, 10, 11, 12, 13] (fun hv i _ _ _ _ wr => ∃ k : Nat, k ≤ len1 ∧ (k : Int) ≤ room ∧ i = .int .i64 k ∧
      wr.ownsRow w.heap.size 9 1 hv k ((z1.take k).map Value.string) ∧ Below w.heap.size w wr ∧
      ∃ F S, (∀ b, F b → w.heap.size ≤ b) ∧ (∀ b, hv.ownBlock = some b → ¬ F b) ∧ Is F wr c room S ∧ S.length ≤ k ∧ Held S (z1.take k) ∧ ∀ s ∈ S, 0 ≤ s.pins ∧ s.pins ≤ k)
    (fun _ i _ _ _ _ _ => len1 - (intOf i).toNat)
  case atStart => exact ⟨0, Nat.zero_le _, by omega, rfl, World.ownsRow_nil _ _ _ _, b0, F0, [], hF0, by simp [Value.ownBlock], h0, Nat.le_refl _, by simp [Held], by simp⟩
  case round =>
    clear h0 b0 hF0
    obtain ⟨k, hk, hkr, rfl, hown, b1, F, S, hF, hvF, hS, hlen, hheld, hpins⟩ := hrel
    by_cases hlt : k < len1 ∧ (k : Int) < room
    · obtain ⟨hlt, hlr⟩ := hlt
      obtain ⟨b, off, rfl, hcell⟩ := t1.at hlt
      have hc1 : wr.cell? ⟨b, off + k, none⟩ = some (.string (z1.getD k ByteArray.empty)) := (b1.cell (p := ⟨b, off + k, none⟩) (lt_of_cell hcell)).trans hcell
      have hlz : k < z1.length := by
        rcases t1 with ⟨q, _⟩ | ⟨x, _, q1, _, q3, _⟩
        · cases q
        · omega
      have hbw : b < w.heap.size := lt_of_cell hcell
      obtain ⟨key, hkey⟩ : ∃ s, s = z1.getD k ByteArray.empty := ⟨_, rfl⟩
      rw [← hkey] at hc1
      have HK := hide hkey
      clear hkey hcell
      obtain ⟨hl1, hl2, hl3, hl4⟩ := first_put HK.out hlz hlr hS.kNodup hlen hheld hpins
      have hpn : Pinnable (putS room S key (k : Int)).1 key := fun s hs => by
        have := hl3 s (slotOf_some hs).1
        omega
      have HL := hide hl4
      have hp := put_any hS key (k : Int)
      rw [hl1] at hp
      have HP2 : Hid ((slotOf (putS room S key (k : Int)).1 key).isSome = true) := hide hl2
      clear hl1 hl2 hl3 hl4
      go_wp2_with fail
      refine hp.mono ?_
      clear hp
      rintro e w3 ⟨F2, rfl, hS2, o2, hF2⟩
      have hvlt : ∀ b, u8.ownBlock = some b → b < wr.heap.size := fun b q => (hown.lt b q).2
      have b2 := Below.then_only (Nat.le_refl _) b1 o2 hF
      have hG2 : ∀ b, F2 b → w.heap.size ≤ b := fun b q => (hF2 b q).elim (hF b) (fun q => Nat.le_trans b1.size q)
      have hvF2 : ∀ b, u8.ownBlock = some b → ¬ F2 b := fun b q r => (hF2 b r).elim (hvF b q) (fun r => absurd (hvlt b q) (by omega))
      have hown2 := ownsRow_only hown o2 hvF
      have hc2 : w3.cell? ⟨b, off + k, none⟩ = some (.string key) := (o2.cell (p := ⟨b, off + k, none⟩) (lt_of_cell hc1) (fun q => absurd (hF b q) (by omega))).trans hc1
      generalize putS room S key (k : Int) = T at *
      clear hS hlen hheld hpins hF hvF hvlt hown o2 b1 hc1 hF2
      go_wp2_with fail
      have hp := pin_any hS2 key hpn
      rw [HP2.out] at hp
      refine hp.mono ?_
      clear hp
      rintro e w4 ⟨rfl, hS3, o3⟩
      have b3 := Below.then_only (Nat.le_refl _) b2 o3 hG2
      have hown3 := ownsRow_only hown2 o3 hvF2
      have hc3 : w4.cell? ⟨b, off + k, none⟩ = some (.string key) := (o3.cell (p := ⟨b, off + k, none⟩) (lt_of_cell hc2) (fun q => absurd (hG2 b q) (by omega))).trans hc2
      clear hS2 hpn hown2 o3 b2 hc2
      have hvlt : ∀ b, u8.ownBlock = some b → b < w4.heap.size := fun b q => (hown3.lt b q).2
      have hsz := b3.size
      go_wp2_with (at_builtin; refine wpList_append_own_at _ rfl _ _ 32 rfl w.heap.size 9 i0 (.string ⟨#[]⟩) 1 16 Try.underlying32 HI.out HZ0.out HZ1.out HZ2.out rfl (by decide) _ _ _ rfl (hown3.alloc _) ⟨w4.heap.size, 0, none⟩ 1 1 [.string key] rfl rfl ?c1 ?c2 ?c3 ?c4 ?c5 ?c6)
      case c1 => exact cell_one_new _ _ _
      case c2 => intro u hu; simp at hu; subst hu; rfl
      case c3 => unfold maxLen; omega
      case c4 => omega
      case c5 => simp; omega
      case c6 =>
        intro v' w5 hown4 hgr _ hloc
        have o4 : Only (fun b => some b = u8.ownBlock) w4 w5 := (Only.alloc _ w4 _).trans (only_of_grown hgr)
        have hS4 := hS3.kept o4 (fun b q e => hvF2 b e.symm q)
        have b4 : Below w.heap.size w w5 := b3.trans (o4.below hsz (fun b q => (hown3.lt b q.symm).1))
        have hv4 : ∀ b, v'.ownBlock = some b → ¬ F2 b := by
          intro b q r
          rcases hloc with e | e
          · exact hvF2 b (e.symm.trans q) r
          · rw [e] at q
            have hlt := hS3.flt b r
            simp only [Option.some.injEq] at q
            omega
        have hT : (z1.take (k + 1)).map Value.string = (z1.map Value.string).take k ++ [Value.string key] := by
          rw [List.take_succ_eq_append_getElem hlz, List.map_append, List.map_take, HK.out]
          simp [List.getD_eq_getElem?_getD, List.getElem?_eq_getElem hlz]
        rw [← hT] at hown4
        have HO := hown4
        clear hT hloc hgr hown3 hc3 b3 hvF2 hS3 o4 HI HZ0 HZ1 HZ2 hvlt hsz
        go_wp2_with fail
        go_roundw
        case rel => exact ⟨k + 1, hlt, by omega, by go_num, HO, b4, F2, _, hG2, hv4, hS4, HL.out.1, HL.out.2.1, HL.out.2.2⟩
        case measure => simp [intOf]; omega
    · have hex : ¬ k < len1 ∨ (k < len1 ∧ ¬ (k : Int) < room) := by omega
      have hlen' : (S.length : Int) ≤ room := by omega
      have hp0 : ∀ s ∈ S, 0 ≤ s.pins := fun s q => (hpins s q).1
      clear hlt hlen hpins HI HZ0 HZ1 HZ2
      rcases hex with hx | ⟨hx, hx2⟩
      all_goals go_wp2_with fail
      all_goals
        go_loopw [14, 15, 16, 17, 18, 19, 20, 21, 22] (fun i _ _ _ _ _ _ _ _ wr => ∃ j : Nat, j ≤ len2 ∧ i = .int .i64 j ∧
          wr.ownsRow w.heap.size 9 1 u8 k ((z1.take k).map Value.string) ∧ Below w.heap.size w wr ∧
          ∃ F S, (∀ b, F b → w.heap.size ≤ b) ∧ (∀ b, u8.ownBlock = some b → ¬ F b) ∧ Is F wr c room S ∧ (S.length : Int) ≤ room ∧ Held S (z1.take k) ∧ ∀ s ∈ S, 0 ≤ s.pins)
          (fun i _ _ _ _ _ _ _ _ _ => len2 - (intOf i).toNat)
        case atStart => exact ⟨0, Nat.zero_le _, rfl, hown, b1, F, S, hF, hvF, hS, hlen', hheld, hp0⟩
        case round =>
          clear hown b1 hF hvF hS hlen' hheld hp0
          obtain ⟨j, hj, rfl, hown, b1, F, S, hF, hvF, hS, hlen, hheld, hp0⟩ := hrel
          by_cases hlt : j < len2
          · obtain ⟨b, off, rfl, hcell⟩ := t2.at hlt
            have hc1 : wr.cell? ⟨b, off + j, none⟩ = some (.string (z2.getD j ByteArray.empty)) := (b1.cell (p := ⟨b, off + j, none⟩) (lt_of_cell hcell)).trans hcell
            have hbw : b < w.heap.size := lt_of_cell hcell
            obtain ⟨key, hkey⟩ : ∃ s, s = z2.getD j ByteArray.empty := ⟨_, rfl⟩
            rw [← hkey] at hc1
            clear hkey hcell
            have hp := peek_any hS key
            obtain ⟨bw, hbw2⟩ : ∃ bw, (slotOf S key).isSome = bw := ⟨_, rfl⟩
            obtain ⟨vw, hvw⟩ : ∃ v, valOf (slotOf S key) = v := ⟨_, rfl⟩
            rw [hbw2, hvw] at hp
            have HW := hide hbw2
            clear hbw2 hvw
            go_wp2_with fail
            refine hp.mono ?_
            clear hp
            rintro e w3 ⟨rfl, rfl⟩
            go_wp2_with fail
            have hp := put_any hS key (j : Int)
            obtain ⟨hm1, hm2, hm3, hm4⟩ := later_put (v := (j : Int)) (key := key) hS.kNodup hlen hheld hp0
            have hd := putS_done room S key (j : Int)
            have hw : bw = true → (putS room S key (j : Int)).2.2 = true := fun q => putS_was (HW.out.trans q)
            have hg : ∀ x, (putS room S key (j : Int)).2.1 = some x → x.k ≠ key := fun x q => (putS_goes q).2.2
            generalize putS room S key (j : Int) = T at *
            obtain ⟨T1, T2, T3⟩ := T
            simp only at hp hm1 hm2 hm3 hd hw hg
            obtain ⟨gk, hgk⟩ : ∃ q, keyG T2 = q := ⟨_, rfl⟩
            obtain ⟨gv, hgv⟩ : ∃ q, valG T2 = q := ⟨_, rfl⟩
            obtain ⟨bg, hbg⟩ : ∃ q, T2.isSome = q := ⟨_, rfl⟩
            rw [hgk, hgv, hbg] at hp
            have hg2 : bg = true → (gk.toList == key.toList) = false := by
              intro q
              rw [q] at hbg
              obtain ⟨x, rfl⟩ := Option.isSome_iff_exists.1 hbg
              have := hg x rfl
              rw [← hgk]
              exact beq_eq_false_iff_ne.2 fun q => this (bytes_toList q)
            clear hgk hgv hbg hg
            have hg := hg2
            clear hg2
            have HD := hide hd
            have HM1 := hide hm1
            have HM2 := hide hm2
            have HM3 := hide hm3
            have HG := hide hg
            have HWW := hide hw
            clear hd hw hg hm1 hm2 hm3 hlen hheld hp0
            refine hp.mono ?_
            clear hp
            rintro e w4 ⟨F2, rfl, hS2, o2, hF2⟩
            have b2 := Below.then_only (Nat.le_refl _) b1 o2 hF
            have hG2 : ∀ b, F2 b → w.heap.size ≤ b := fun b q => (hF2 b q).elim (hF b) (fun q => Nat.le_trans b1.size q)
            have hvF2 : ∀ b, u8.ownBlock = some b → ¬ F2 b := fun b q r => (hF2 b r).elim (hvF b q) (fun r => absurd (hown.lt b q).2 (by omega))
            have hown2 := ownsRow_only hown o2 hvF
            have hc2 : w4.cell? ⟨b, off + j, none⟩ = some (.string key) := (o2.cell (p := ⟨b, off + j, none⟩) (lt_of_cell hc1) (fun q => absurd (hF b q) (by omega))).trans hc1
            clear hS hown o2 b1 hc1 hF2 hF hvF
            go_wp2_with fail
            have hp := peek_any hS2 key
            rw [HD.out] at hp
            obtain ⟨vw2, hvw2⟩ : ∃ v, valOf (slotOf T1 key) = v := ⟨_, rfl⟩
            rw [hvw2] at hp
            clear hvw2
            refine hp.mono ?_
            clear hp
            rintro e w5 ⟨rfl, rfl⟩
            have hle : ¬ room < (T1.length : Int) := by have := HM1.out; omega
            have hways : (T3 = true ∧ bg = false) ∨ (T3 = true ∧ bg = true ∧ (gk.toList == key.toList) = false) ∨ (T3 = false ∧ bw = false ∧ bg = false) ∨ (T3 = false ∧ bw = false ∧ bg = true ∧ (gk.toList == key.toList) = false) := by
              have h1 := HWW.out
              have h2 := HG.out
              cases T3 <;> cases bw <;> cases bg <;> simp_all
            have HB := hide hG2
            have HV := hide hvF2
            clear hG2 hvF2
            rcases hways with ⟨rfl, rfl⟩ | ⟨rfl, rfl, hgk⟩ | ⟨rfl, rfl, rfl⟩ | ⟨rfl, rfl, rfl, hgk⟩
            · cases bw
              all_goals
                go_wp2_with fail
                refine (len_any hS2).mono ?_
                rintro e w6 ⟨rfl, rfl⟩
                go_wp2_with fail
                go_roundw
                case rel => exact ⟨j + 1, hlt, by go_num, hown2, b2, F2, T1, HB.out, HV.out, hS2, HM1.out, HM2.out, HM3.out⟩
                case measure => simp [intOf]; omega
            · cases bw
              all_goals
                go_wp2_with fail
                refine (len_any hS2).mono ?_
                rintro e w6 ⟨rfl, rfl⟩
                go_wp2_with fail
                go_roundw
                case rel => exact ⟨j + 1, hlt, by go_num, hown2, b2, F2, T1, HB.out, HV.out, hS2, HM1.out, HM2.out, HM3.out⟩
                case measure => simp [intOf]; omega
            · go_wp2_with fail
              refine (len_any hS2).mono ?_
              rintro e w6 ⟨rfl, rfl⟩
              go_wp2_with fail
              go_roundw
              case rel => exact ⟨j + 1, hlt, by go_num, hown2, b2, F2, T1, HB.out, HV.out, hS2, HM1.out, HM2.out, HM3.out⟩
              case measure => simp [intOf]; omega
            · go_wp2_with fail
              refine (len_any hS2).mono ?_
              rintro e w6 ⟨rfl, rfl⟩
              go_wp2_with fail
              go_roundw
              case rel => exact ⟨j + 1, hlt, by go_num, hown2, b2, F2, T1, HB.out, HV.out, hS2, HM1.out, HM2.out, HM3.out⟩
              case measure => simp [intOf]; omega
          · go_wp2_with fail
            go_loopw [23, 24, 25] (fun i _ _ wr => ∃ m : Nat, m ≤ k ∧ i = .int .i64 m ∧
              wr.ownsRow w.heap.size 9 1 u8 k ((z1.take k).map Value.string) ∧ Below w.heap.size w wr ∧
              ∃ F S, (∀ b, F b → w.heap.size ≤ b) ∧ Is F wr c room S ∧ Held S (z1.take k))
              (fun i _ _ _ => k - (intOf i).toNat)
            case atStart => exact ⟨0, Nat.zero_le _, rfl, hown, b1, F, S, hF, hS, hheld⟩
            case round =>
              clear hown b1 hF hvF hS hlen hheld hp0
              obtain ⟨m, hm, rfl, hown, b1, F, S, hF, hS, hheld⟩ := hrel
              by_cases hlt : m < k
              · obtain ⟨g, cap, hv⟩ := own_form hown (by omega)
                subst hv
                have hlz : k ≤ z1.length := by
                  rcases t1 with ⟨_, q, _⟩ | ⟨x, _, q1, _, q3, _⟩
                  · omega
                  · omega
                have hcell := hown.cellAt m (by omega)
                rw [List.getElem?_map, List.getElem?_take, if_pos hlt, List.getElem?_eq_getElem (by omega)] at hcell
                obtain ⟨key, hkey⟩ : ∃ s, s = z1[m]'(by omega) := ⟨_, rfl⟩
                rw [← hkey] at hcell
                have hc1 : wr.cell? ⟨g, m, none⟩ = some (.string key) := hcell
                have hth : (slotOf S key).isSome = true := by
                  obtain ⟨s, hs, hsk, _⟩ := hheld key (by rw [hkey]; exact List.mem_take_iff_getElem.2 ⟨m, by omega, rfl⟩)
                  rw [← hsk, slotOf_mem hS.kNodup hs]; rfl
                clear hcell hkey
                have hp := peek_any hS key
                obtain ⟨vw, hvw⟩ : ∃ v, valOf (slotOf S key) = v := ⟨_, rfl⟩
                rw [hth, hvw] at hp
                clear hth hvw
                go_wp2_with fail
                refine hp.mono ?_
                clear hp
                rintro e w3 ⟨rfl, rfl⟩
                go_wp2_with fail
                go_roundw
                case rel => exact ⟨m + 1, hlt, by go_num, hown, b1, F, S, hF, hS, hheld⟩
                case measure => simp [intOf]; omega
              · obtain ⟨av, cap, hv⟩ := own_shape hown
                subst hv
                go_wp2_with fail
                refine (II.alive_any _).mono ?_
                rintro e w3 ⟨rfl, hb⟩
                have b3 : Below w.heap.size w w3 := b1.trans (hb.mono b1.size)
                go_wp2_with fail
                go_ret
                exact ⟨rfl, b3⟩

set_option maxRecDepth 100000 in
/-- The statement's walk. -/
theorem keeps_walk (room : Int) (a1 : Option Addr) (len1 cap1 : Nat) (z1 : List ByteArray) {w : World} (t1 : IsTexts w a1 len1 cap1 z1) (a2 : Option Addr) (len2 cap2 : Nat) (z2 : List ByteArray) (t2 : IsTexts w a2 len2 cap2 z2) :
    Calls Try.prog 4 #[.int .i64 room, .slice a1 len1 cap1, .slice a2 len2 cap2] w fun e w' => e = .returned (.bool true) ∧ Below w.heap.size w w' := by
  by_cases h1 : room < 1
  · go_enter Try.func4, Try.ntmps4
    go_wp2_with fail
    refine (II.alive_any _).mono ?_
    rintro e w3 ⟨rfl, hb⟩
    go_wp2_with fail
    go_ret
    exact ⟨rfl, hb⟩
  by_cases h2 : 60 < room
  · go_enter Try.func4, Try.ntmps4
    go_wp2_with fail
    refine (II.alive_any _).mono ?_
    rintro e w3 ⟨rfl, hb⟩
    go_wp2_with fail
    go_ret
    exact ⟨rfl, hb⟩
  by_cases h3 : 60 < (len1 : Int)
  · go_enter Try.func4, Try.ntmps4
    go_wp2_with fail
    refine (II.alive_any _).mono ?_
    rintro e w3 ⟨rfl, hb⟩
    go_wp2_with fail
    go_ret
    exact ⟨rfl, hb⟩
  by_cases h4 : 100 < (len2 : Int)
  · go_enter Try.func4, Try.ntmps4
    go_wp2_with fail
    refine (II.alive_any _).mono ?_
    rintro e w3 ⟨rfl, hb⟩
    go_wp2_with fail
    go_ret
    exact ⟨rfl, hb⟩
  exact keeps_main room a1 len1 cap1 z1 a2 len2 cap2 z2 w t1 t2 (by omega) (by omega) (by omega) (by omega)

end SI
end Go.Proofs.Ytdgnfdheofacgaa
