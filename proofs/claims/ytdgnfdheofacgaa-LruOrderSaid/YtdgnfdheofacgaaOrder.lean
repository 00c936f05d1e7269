/- LruOrder: the key that was not used for the longest time, and is not pinned, goes first: the walk of the statement. -/
import Derived.Test.YtdgnfdheofacgaaAlive5
import Derived.Test.YtdgnfdheofacgaaTIS
import Derived.Test.YtdgnfdheofacgaaOrderS
namespace Go.Proofs.Ytdgnfdheofacgaa
open Go.RowKit

/-- What the walk is told of a slice of integers that came in. -/
def IsRow (k : IntKind) (w : World) (a : Option Addr) (len cap : Nat) (zs : List Int) : Prop :=
  (a = none ∧ len = 0 ∧ cap = 0 ∧ zs = []) ∨
  ∃ x, a = some x ∧ len ≤ cap ∧ cap ≤ maxLen ∧ zs.length = cap ∧ (∀ i, i < zs.length → w.cell? (x.add i) = some (.int k (zs.getD i 0))) ∧ ∀ n ∈ zs, (Lit.int k n).wf = true

/-- Element i of it. -/
theorem IsRow.at {k : IntKind} {w : World} {a : Option Addr} {len cap : Nat} {zs : List Int} (h : IsRow k w a len cap zs) {i : Nat} (hi : i < len) :
    ∃ b off, a = some ⟨b, off, none⟩ ∧ w.cell? ⟨b, off + i, none⟩ = some (.int k (zs.getD i 0)) := by
  rcases h with ⟨_, rfl, _⟩ | ⟨x, rfl, h1, _, h3, h4, _⟩
  · omega
  · have h0 := h4 0 (by omega)
    have hi' := h4 i (by omega)
    obtain ⟨b, off, spot⟩ := x
    have hs : spot = none := by
      cases spot with
      | none => rfl
      | some q =>
        simp only [Addr.add, if_pos] at h0
        simp [World.cell?] at h0
        split at h0 <;> simp at h0
    subst hs
    refine ⟨b, off, rfl, ?_⟩
    by_cases e : i = 0
    · subst e; simpa [Addr.add] using hi'
    · simpa [Addr.add, e] using hi'

namespace IS

theorem info3 : (Try.prog.info? 3).map (fun i => (i.zero, i.size, i.bytes)) = some (some (.int .i64 0), 1, 8) := by kernel_rfl

abbrev sx : ByteArray := ⟨#[120]⟩
abbrev sy : ByteArray := ⟨#[121]⟩

set_option maxRecDepth 100000 in
set_option maxHeartbeats 4000000 in
theorem order_main (n : Nat) (a1 : Option Addr) (len1 cap1 : Nat) (z1 : List Int) (w : World) (t1 : IsRow .i64 w a1 len1 cap1 z1) (h1 : 1 ≤ n) (h2 : n ≤ 20) (h3 : len1 ≤ 100) :
    Calls Try.prog 3 #[.int .i64 n, .slice a1 len1 cap1] w fun e w' => e = .returned (.bool true) ∧ Below w.heap.size w w' := by
  have g1 : ¬ (n : Int) < 1 := by omega
  have g2 : ¬ 20 < (n : Int) := by omega
  have g3 : ¬ 100 < (len1 : Int) := by omega
  have HC : Hid (cap (n : Int) = (n : Int)) := by show cap (n : Int) = (n : Int); unfold cap; omega
  go_enter Try.func3, Try.ntmps3
  go_wp2_with fail
  refine (new_any n w).mono ?_
  rintro e w1 ⟨c, F0, rfl, h0, o0, hF0⟩
  rw [HC.out] at h0
  have b0 := Below.then_only (Nat.le_refl _) (Below.refl _ _) o0 (fun b q => q.elim)
  clear o0
  go_wp2_with fail
  go_loopw [6] (fun i wr => ∃ k : Nat, k ≤ n ∧ i = .int .i64 k ∧ Below w.heap.size w wr ∧ ∃ F, (∀ b, F b → w.heap.size ≤ b) ∧ Is F wr c n (mk sx (upTo k).reverse)) (fun i _ => n - (intOf i).toNat)
  case atStart => exact ⟨0, Nat.zero_le _, rfl, b0, F0, hF0, h0⟩
  case round =>
    clear h0 b0 hF0
    obtain ⟨k, hk, rfl, b1, F, hF, hS⟩ := hrel
    by_cases hlt : k < n
    · go_wp2_with fail
      have hp := put_any hS (k : Int) sx
      have e1 : putS (n : Int) (mk sx (upTo k).reverse) (k : Int) sx = (mk sx (upTo (k + 1)).reverse, none, true) := by
        rw [mk_put sx (by rw [List.mem_reverse, mem_upTo]; omega) (by rw [List.length_reverse, upTo_length]; omega), upTo_succ]; simp
      rw [e1] at hp
      clear e1
      refine hp.mono ?_
      clear hp
      rintro e w2 ⟨F2, rfl, hS2, o2, hF2⟩
      have b2 := Below.then_only (Nat.le_refl _) b1 o2 hF
      have hG2 : ∀ b, F2 b → w.heap.size ≤ b := fun b q => (hF2 b q).elim (hF b) (fun q => Nat.le_trans b1.size q)
      clear hS o2 hF b1 hF2
      go_wp2_with fail
      go_roundw
      case rel => exact ⟨k + 1, hlt, by go_num, b2, F2, hG2, hS2⟩
      case measure => simp [intOf]; omega
    · obtain rfl : k = n := by omega
      clear hlt hk
      go_wp2_with fail
      go_loopw [7, 8] (fun v i wr => ∃ j : Nat, j ≤ k ∧ i = .int .i64 j ∧ Below w.heap.size w wr ∧ wr.ownsRow w.heap.size 3 1 v j ((upTo j).map (Value.int .i64)) ∧ (∀ b, v.ownBlock = some b → ¬ F b) ∧ Is F wr c k (mk sx (upTo k).reverse)) (fun _ i _ => k - (intOf i).toNat)
      case atStart => exact ⟨0, Nat.zero_le _, rfl, b1, World.ownsRow_nil _ _ _ _, by simp [Value.ownBlock], hS⟩
      case round =>
        clear b1 hS
        obtain ⟨j, hj, rfl, b1, hown, hv, hS⟩ := hrel
        by_cases hlt : j < k
        · have hsz := b1.size
          go_wp2_with (at_builtin; refine wpList_append_one rfl _ _ _ rfl w.heap.size 3 (.int .i64 0) 8 Try.underlying22 info3 rfl _ _ _ rfl hown (.int .i64 j) _ rfl rfl (by omega) (by omega) hsz ?_; intro v' w2 hown2 o2 hloc)
          have hS2 := hS.kept o2 (fun b q e => hv b e q)
          have b2 : Below w.heap.size w w2 := b1.trans (o2.below hsz (fun b q => (hown.lt b q).1))
          have hv2 : ∀ b, v'.ownBlock = some b → ¬ F b := fun b q r => (hloc b q).elim (fun q => hv b q r) (fun q => absurd (hS.flt b r) (by omega))
          have hown3 : w2.ownsRow w.heap.size 3 1 v' (j + 1) ((upTo (j + 1)).map (Value.int .i64)) := by rw [upTo_succ, List.map_append]; exact hown2
          clear hown hown2 o2 b1 hS hv hloc hsz
          go_wp2_with fail
          go_roundw
          case rel => exact ⟨j + 1, hlt, by go_num, b2, hown3, hv2, hS2⟩
          case measure => simp [intOf]; omega
        · obtain rfl : j = k := by omega
          clear hlt hj
          go_wp2_with fail
          go_loopw [7, 9, 10, 11, 12, 13, 14] (fun v i _ _ _ _ _ wr => ∃ (m : Nat) (l : List Int), m ≤ len1 ∧ i = .int .i64 m ∧ Below w.heap.size w wr ∧ Order j l ∧ wr.ownsRow w.heap.size 3 1 v j (l.map (Value.int .i64)) ∧ (∀ b, v.ownBlock = some b → ¬ F b) ∧ Is F wr c j (mk sx l.reverse)) (fun _ i _ _ _ _ _ _ => len1 - (intOf i).toNat)
          case atStart => exact ⟨0, _, Nat.zero_le _, rfl, b1, Order.start j, hown, hv, hS⟩
          case round =>
            clear b1 hS hown hv
            obtain ⟨m, l, hm, rfl, b1, hord, hown, hv, hS⟩ := hrel
            by_cases hlt : m < len1
            · obtain ⟨b, off, rfl, hcell⟩ := t1.at hlt
              have hc1 : wr.cell? ⟨b, off + m, none⟩ = some (.int .i64 (z1.getD m 0)) := (b1.cell (p := ⟨b, off + m, none⟩) (lt_of_cell hcell)).trans hcell
              obtain ⟨key, hkey⟩ : ∃ q, q = z1.getD m 0 := ⟨_, rfl⟩
              rw [← hkey] at hc1
              clear hkey hcell
              go_wp2_with fail
              have hp := get_any hS key
              obtain ⟨vw, hvw⟩ : ∃ v, valOf (slotOf (mk sx l.reverse) key) = v := ⟨_, rfl⟩
              rw [hvw, mk_use, mk_there] at hp
              clear hvw
              have hmem : key ∈ l.reverse ↔ 0 ≤ key ∧ key < j := by rw [List.mem_reverse]; exact hord.mem key
              by_cases hin : key ∈ l.reverse
              · have hr := hmem.1 hin
                rw [if_pos hin, decide_eq_true hin] at hp
                obtain ⟨hr1, hr2⟩ := hr
                have HIN := hide (List.mem_reverse.1 hin)
                clear hin hmem
                refine hp.mono ?_
                clear hp
                rintro e w2 ⟨rfl, hS2, o2⟩
                have b2 := Below.then_only (Nat.le_refl _) b1 o2 hF
                have hown2 := ownsRow_only hown o2 hv
                clear hS hown o2 b1 hc1
                go_wp2_with fail
                go_loopw [13, 14] (fun v i wr => ∃ q : Nat, q ≤ j ∧ i = .int .i64 q ∧ Below w.heap.size w wr ∧ wr.ownsRow w.heap.size 3 1 u7 j (l.map (Value.int .i64)) ∧ wr.ownsRow w.heap.size 3 1 v ((l.take q).filter (fun x => decide (x ≠ key))).length (((l.take q).filter (fun x => decide (x ≠ key))).map (Value.int .i64)) ∧
                    (∀ b, v.ownBlock = some b → ¬ F b ∧ u7.ownBlock ≠ some b) ∧ Is F wr c j (mk sx (key :: l.reverse.filter (fun q => decide (q ≠ key))))) (fun _ i _ => j - (intOf i).toNat)
                case atStart => exact ⟨0, Nat.zero_le _, rfl, b2, hown2, World.ownsRow_nil _ _ _ _, by simp [Value.ownBlock], hS2⟩
                case round =>
                  clear b2 hown2 hS2
                  obtain ⟨q, hq, rfl, b2, hown2, hl2, hlv, hS2⟩ := hrel
                  by_cases hq2 : q < j
                  · obtain ⟨g, cp, hv7⟩ := own_form hown2 (by omega)
                    subst hv7
                    have hql : q < l.length := by rw [hord.len]; exact hq2
                    have hcell := hown2.cellAt q (by omega)
                    rw [List.getElem?_map, List.getElem?_eq_getElem hql] at hcell
                    have htk := take_filter (p := fun x => decide (x ≠ key)) hql
                    obtain ⟨x, hx⟩ : ∃ x, x = l[q] := ⟨_, rfl⟩
                    rw [← hx] at hcell htk
                    have hc2 : wr.cell? ⟨g, q, none⟩ = some (.int .i64 x) := hcell
                    clear hcell hx
                    by_cases hxk : x = key
                    · have hb : (x != key) = false := by simp [hxk]
                      have HT : Hid ((l.take (q + 1)).filter (fun x => decide (x ≠ key)) = (l.take q).filter (fun x => decide (x ≠ key))) := by
                        show (l.take (q + 1)).filter (fun x => decide (x ≠ key)) = (l.take q).filter (fun x => decide (x ≠ key))
                        rw [htk]; simp [hxk]
                      clear htk hxk
                      go_wp2_with fail
                      go_roundw
                      case rel => exact ⟨q + 1, hq2, by go_num, b2, hown2, by rw [HT.out]; exact hl2, hlv, hS2⟩
                      case measure => simp [intOf]; omega
                    · have hb : (x != key) = true := by simp [hxk]
                      have HT : Hid ((l.take (q + 1)).filter (fun x => decide (x ≠ key)) = (l.take q).filter (fun x => decide (x ≠ key)) ++ [x]) := by
                        show (l.take (q + 1)).filter (fun x => decide (x ≠ key)) = (l.take q).filter (fun x => decide (x ≠ key)) ++ [x]
                        rw [htk]; simp [hxk]
                      have hfl : ((l.take q).filter (fun x => decide (x ≠ key))).length ≤ 20 := Nat.le_trans (List.length_filter_le _ _) (Nat.le_trans (List.length_take_le _ _) (by omega))
                      have hsz := b2.size
                      clear htk hxk
                      generalize hcnt : ((l.take q).filter (fun x => decide (x ≠ key))).length = cnt at hl2 hfl
                      have HCN := hide hcnt
                      clear hcnt
                      go_wp2_with (at_builtin; refine wpList_append_one rfl _ _ _ rfl w.heap.size 3 (.int .i64 0) 8 Try.underlying22 info3 rfl _ _ _ rfl hl2 (.int .i64 x) _ rfl rfl (by omega) (by omega) hsz ?_; intro v' w3 hl3 o3 hloc)
                      have hS3 := hS2.kept o3 (fun b q e => (hlv b e).1 q)
                      have b3 : Below w.heap.size w w3 := b2.trans (o3.below hsz (fun b q => (hl2.lt b q).1))
                      have hown3 := ownsRow_only hown2 o3 (fun b q e => (hlv b e).2 q)
                      have hlv3 : ∀ b, v'.ownBlock = some b → ¬ F b ∧ (Value.slice (some ⟨g, 0, none⟩) j cp).ownBlock ≠ some b := fun b q => (hloc b q).elim (fun q => hlv b q) (fun q => ⟨fun r => absurd (hS2.flt b r) (by omega), fun r => absurd (hown2.lt b r).2 (by omega)⟩)
                      clear hl2 o3 b2 hS2 hlv hloc hsz hown2 hc2 hfl
                      go_wp2_with fail
                      go_roundw
                      case rel => exact ⟨q + 1, hq2, by go_num, b3, hown3, by rw [HT.out, List.length_append, HCN.out, List.map_append]; exact hl3, hlv3, hS3⟩
                      case measure => simp [intOf]; omega
                  · obtain rfl : q = j := by omega
                    have htl : l.take q = l := List.take_of_length_le (by rw [hord.len]; exact Nat.le_refl _)
                    rw [htl] at hl2
                    clear htl
                    obtain ⟨a7, c7, hv7⟩ := own_shape hown2
                    subst hv7
                    have hlen : (l.filter (fun x => decide (x ≠ key)) ++ [key]).length = q := (hord.use HIN.out).len
                    rw [List.length_append, List.length_cons, List.length_nil] at hlen
                    have hord2 := hord.use HIN.out
                    have hrev : key :: l.reverse.filter (fun q => decide (q ≠ key)) = (l.filter (fun x => decide (x ≠ key)) ++ [key]).reverse := by rw [List.reverse_append, filter_reverse']; rfl
                    rw [hrev] at hS2
                    have hsz := b2.size
                    generalize hcnt : (l.filter (fun x => decide (x ≠ key))).length = cnt at hl2 hlen
                    have HL := hide hlen
                    clear hrev hlen hcnt
                    go_wp2_with (at_builtin; refine wpList_append_one rfl _ _ _ rfl w.heap.size 3 (.int .i64 0) 8 Try.underlying22 info3 rfl _ _ _ rfl hl2 (.int .i64 key) _ rfl rfl (by have := HL.out; omega) (by omega) hsz ?_; intro v' w3 hl3 o3 hloc)
                    have hS3 := hS2.kept o3 (fun b q e => (hlv b e).1 q)
                    have b3 : Below w.heap.size w w3 := b2.trans (o3.below hsz (fun b q => (hl2.lt b q).1))
                    have hv3 : ∀ b, v'.ownBlock = some b → ¬ F b := fun b q => (hloc b q).elim (fun q => (hlv b q).1) (fun q r => absurd (hS2.flt b r) (by omega))
                    rw [HL.out] at hl3
                    have hl4 : w3.ownsRow w.heap.size 3 1 v' q ((l.filter (fun x => decide (x ≠ key)) ++ [key]).map (Value.int .i64)) := by rw [List.map_append]; exact hl3
                    clear hl2 o3 b2 hS2 hlv hloc hsz hown2 hl3
                    go_wp2_with fail
                    go_roundw
                    case rel => exact ⟨m + 1, _, hlt, by go_num, b3, hord2, hl4, hv3, hS3⟩
                    case measure => simp [intOf]; omega
              · rw [if_neg hin, decide_eq_false hin] at hp
                have hout : key < 0 ∨ (0 ≤ key ∧ ¬ key < j) := by
                  have := mt hmem.2 hin
                  omega
                clear hin hmem
                refine hp.mono ?_
                clear hp
                rintro e w2 ⟨rfl, hS2, o2⟩
                have b2 := Below.then_only (Nat.le_refl _) b1 o2 hF
                have hown2 := ownsRow_only hown o2 hv
                clear hS hown o2 b1 hc1
                rcases hout with hr | ⟨hr, hr2⟩
                all_goals
                  go_wp2_with fail
                  go_roundw
                  case rel => exact ⟨m + 1, l, hlt, by go_num, b2, hord, hown2, hv, hS2⟩
                  case measure => simp [intOf]; omega
            · clear hm
              go_wp2_with fail
              go_loopw [15, 16, 17, 18, 19] (fun i _ _ _ _ wr => ∃ q : Nat, q ≤ j ∧ i = .int .i64 q ∧ Below w.heap.size w wr ∧ wr.ownsRow w.heap.size 3 1 u7 j (l.map (Value.int .i64)) ∧ ∃ F, (∀ b, F b → w.heap.size ≤ b) ∧ (∀ b, u7.ownBlock = some b → ¬ F b) ∧ Is F wr c j (mk sy (tops q) ++ mk sx (l.drop q).reverse)) (fun i _ _ _ _ _ => j - (intOf i).toNat)
              case atStart => exact ⟨0, Nat.zero_le _, rfl, b1, hown, F, hF, hv, hS⟩
              case round =>
                clear b1 hown hF hv hS hlt
                obtain ⟨q, hq, rfl, b1, hown, F, hF, hv, hS⟩ := hrel
                by_cases hq2 : q < j
                · obtain ⟨g, cp, hv7⟩ := own_form hown (by omega)
                  subst hv7
                  have hql : q < l.length := by rw [hord.len]; exact hq2
                  have hcell := hown.cellAt q (by omega)
                  rw [List.getElem?_map, List.getElem?_eq_getElem hql] at hcell
                  have hev := last_evict (v := sx) (u := sy) hord hql h2
                  obtain ⟨x, hx⟩ : ∃ x, x = l[q] := ⟨_, rfl⟩
                  rw [← hx] at hcell hev
                  have hc1 : wr.cell? ⟨g, q, none⟩ = some (.int .i64 x) := hcell
                  clear hcell hx
                  have hp := put_any hS (1000 + (q : Int)) sy
                  rw [hev] at hp
                  simp only [keyG, valG, Option.isSome] at hp
                  clear hev
                  go_wp2_with fail
                  refine hp.mono ?_
                  clear hp
                  rintro e w2 ⟨F2, rfl, hS2, o2, hF2⟩
                  have b2 := Below.then_only (Nat.le_refl _) b1 o2 hF
                  have hG2 : ∀ b, F2 b → w.heap.size ≤ b := fun b q => (hF2 b q).elim (hF b) (fun q => Nat.le_trans b1.size q)
                  have hown2 := ownsRow_only hown o2 hv
                  have hv2 : ∀ b, (Value.slice (some ⟨g, 0, none⟩) j cp).ownBlock = some b → ¬ F2 b := fun b q r => (hF2 b r).elim (hv b q) (fun r => absurd (hown.lt b q).2 (by omega))
                  have hc2 : w2.cell? ⟨g, q, none⟩ = some (.int .i64 x) := (o2.cell (p := ⟨g, q, none⟩) (lt_of_cell hc1) (hv g rfl)).trans hc1
                  clear hS hown o2 b1 hc1 hF2 hF hv
                  have HG := hide hG2
                  have HV := hide hv2
                  clear hG2 hv2
                  go_wp2_with fail
                  go_roundw
                  case rel => exact ⟨q + 1, hq2, by go_num, b2, hown2, F2, HG.out, HV.out, hS2⟩
                  case measure => simp [intOf]; omega
                · obtain rfl : q = j := by omega
                  clear hq hq2
                  have hlen : (mk sy (tops q) ++ mk sx (l.drop q).reverse).length = q := by
                    rw [List.length_append, mk_length, mk_length, tops_length, List.length_reverse, List.length_drop, hord.len]; omega
                  generalize mk sy (tops q) ++ mk sx (l.drop q).reverse = T at hS hlen
                  have HL := hide hlen
                  clear hlen
                  go_wp2_with fail
                  refine (II.alive_any _).mono ?_
                  rintro e w3 ⟨rfl, hb⟩
                  have hS3 := hS.kept (Below.only hb) (fun b q => Nat.not_le.2 (hS.flt b q))
                  have b3 : Below w.heap.size w w3 := b1.trans (hb.mono b1.size)
                  clear hb hS b1
                  go_wp2_with fail
                  have hp := len_any hS3
                  rw [HL.out] at hp
                  refine hp.mono ?_
                  rintro e w4 ⟨rfl, rfl⟩
                  clear hp
                  go_wp2_with fail
                  go_ret
                  exact ⟨rfl, b3⟩

set_option maxRecDepth 100000 in
/-- The statement's walk. -/
theorem order_walk (room : Int) (a1 : Option Addr) (len1 cap1 : Nat) (z1 : List Int) {w : World} (t1 : IsRow .i64 w a1 len1 cap1 z1) :
    Calls Try.prog 3 #[.int .i64 room, .slice a1 len1 cap1] w fun e w' => e = .returned (.bool true) ∧ Below w.heap.size w w' := by
  by_cases h1 : room < 1
  · go_enter Try.func3, Try.ntmps3
    go_wp2_with fail
    refine (II.alive_any _).mono ?_
    rintro e w3 ⟨rfl, hb⟩
    go_wp2_with fail
    go_ret
    exact ⟨rfl, hb⟩
  by_cases h2 : 20 < room
  · go_enter Try.func3, Try.ntmps3
    go_wp2_with fail
    refine (II.alive_any _).mono ?_
    rintro e w3 ⟨rfl, hb⟩
    go_wp2_with fail
    go_ret
    exact ⟨rfl, hb⟩
  by_cases h3 : 100 < (len1 : Int)
  · go_enter Try.func3, Try.ntmps3
    go_wp2_with fail
    refine (II.alive_any _).mono ?_
    rintro e w3 ⟨rfl, hb⟩
    go_wp2_with fail
    go_ret
    exact ⟨rfl, hb⟩
  obtain ⟨n, rfl⟩ : ∃ n : Nat, room = n := ⟨room.toNat, by omega⟩
  exact order_main n a1 len1 cap1 z1 w t1 (by omega) (by omega) (by omega)

end IS
end Go.Proofs.Ytdgnfdheofacgaa
