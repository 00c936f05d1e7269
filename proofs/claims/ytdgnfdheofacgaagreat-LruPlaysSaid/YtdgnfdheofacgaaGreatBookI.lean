/- commonsbook's small functions on lists of ints: copyInts, SameInts, markInts. -/
import Derived.Test.YtdgnfdheofacgaaGreatRows
import Derived.Test.YtdgnfdheofacgaaGreatBookM
import Derived.BigQuiet
import Derived.Deep.QuietTactic
namespace Go.Proofs.YtdgnfdheofacgaaGreat
open Go.RowKit
namespace BK

theorem und1 : Tryz.prog.underlying 65 = some (.slice 3) := by kernel_rfl
theorem und2 : Tryz.prog.underlying 39 = some (.slice 65) := by kernel_rfl
theorem inf1 : (Tryz.prog.info? 3).map (fun i => (i.zero, i.size, i.bytes)) = some (some (.int .i64 0), 1, 8) := by kernel_rfl
theorem inf2 : (Tryz.prog.info? 65).map (fun i => (i.zero, i.size, i.bytes)) = some (some (.slice none 0 0), 1, 24) := by kernel_rfl

theorem copy_any {w : World} {v : Value} {l : List Int} (h : Has w 1 v l.length (ints l)) (hl : l.length ≤ 1000000) :
    Calls Tryz.prog 28 #[v] w fun e w' => ∃ u, e = .returned u ∧ w'.ownsRow w.heap.size 3 1 u l.length (ints l) ∧ Only (fun _ => False) w w' := by
  obtain ⟨a, cap, rfl⟩ := h.shape
  go_enter Tryz.func28, Tryz.ntmps28
  go_wp2_with (at_builtin; refine wpList_append_has rfl _ _ _ rfl und1 inf1 rfl (by decide) rfl rfl (World.ownsRow_nil _ w.heap.size _ _) h (ints_one l) (by decide) (by omega) (Nat.le_refl _) ?_; intro u w1 hown ho hat)
  go_ret
  refine ⟨u, rfl, by simpa using hown, ⟨ho.os, ho.tape, ho.output, ho.size, fun b hb _ => ho.block b hb (fun q => ?_)⟩⟩
  rcases hat b q with r | r
  · cases r
  · omega

theorem same_any {w : World} {v u : Value} {l : List Int} (h : Has w 1 v l.length (ints l)) (k : Has w 1 u l.length (ints l)) (hl : l.length ≤ 1000000) :
    Calls Tryz.prog 19 #[v, u] w fun e w' => e = .returned (.bool true) ∧ ∃ q, w' = w.drewN q := by
  obtain ⟨a, cap, rfl⟩ := h.shape
  obtain ⟨a2, cap2, rfl⟩ := k.shape
  obtain ⟨n, hn⟩ : ∃ n, n = l.length := ⟨_, rfl⟩
  rw [← hn] at h k hl ⊢
  have HN := hide hn
  clear hn
  go_enter Tryz.func19, Tryz.ntmps19
  go_wp2_with fail
  go_loopw [5] (fun i wr => ∃ j : Nat, j ≤ n ∧ i = .int .i64 j ∧ ∃ q, wr = w.drewN q) (fun i _ => n - (intOf i).toNat)
  case atStart => exact ⟨0, Nat.zero_le _, rfl, 0, rfl⟩
  case round =>
    obtain ⟨j, hj, rfl, q, hq⟩ := hrel
    have hh := h.drewN q
    have hk := k.drewN q
    rw [← hq] at hh hk
    have HQ := hide hq
    clear hq
    by_cases hlt : j < n
    · have hjl : j < l.length := by rw [← HN.out]; exact hlt
      obtain ⟨b, off, cp, hv, hc⟩ := hh.at_ hlt
      obtain ⟨b2, off2, cp2, hv2, hc2⟩ := hk.at_ hlt
      cases hv
      cases hv2
      have c1 := hc j _ (ints_get hjl)
      have c2 := hc2 j _ (ints_get hjl)
      have hjn : (j : Int) < n := by omega
      clear hc hc2 hh hk
      go_wp2_with fail
      go_quiet (fail)
      go_wp2_with fail
      go_roundw
      case rel => exact ⟨j + 1, hlt, by go_num, q + nq, by rw [HQ.out, World.drewN_drewN]⟩
      case measure => simp [intOf]; omega
    · obtain rfl : j = n := by omega
      clear hh hk
      go_wp2_with fail
      go_ret
      exact ⟨rfl, q, HQ.out⟩

theorem mark_any (i f n : Nat) (hi : i ≤ 1000) (hf : f ≤ 1000000) (hn : n ≤ 1000000) (w : World) :
    Calls Tryz.prog 107 #[.int .i64 i, .int .i64 f, .int .i64 n] w fun e w' => ∃ u, e = .returned u ∧ w'.ownsRow w.heap.size 3 1 u n (ints (marks i f n)) ∧ Only (fun _ => False) w w' := by
  go_enter Tryz.func107, Tryz.ntmps107
  go_wp2_with fail
  go_loopw [7, 8] (fun v k wr => ∃ j : Nat, j ≤ n ∧ k = .int .i64 ((f + j : Nat) : Int) ∧ wr.ownsRow w.heap.size 3 1 v j (ints (marks i f j)) ∧ Only (fun b => w.heap.size ≤ b) w wr) (fun _ k _ => f + n - (intOf k).toNat)
  case atStart => exact ⟨0, Nat.zero_le _, rfl, World.ownsRow_nil _ _ _ _, Only.refl _ _⟩
  case round =>
    obtain ⟨j, hj, rfl, hrow, ho⟩ := hrel
    by_cases hlt : j < n
    · have hsz := ho.size
      have hms : Hid (ints (marks i f (j + 1)) = ints (marks i f j) ++ [.int .i64 (-1000000 * (i : Int) - ((f + j : Nat) : Int) - 7)]) := hide (by rw [marks_succ]; simp [ints])
      go_wp2_with (at_builtin; refine wpList_append_one rfl _ _ _ rfl w.heap.size 3 (.int .i64 0) 8 und1 inf1 rfl _ _ _ rfl hrow _ _ rfl rfl (by omega) (by omega) hsz ?_; intro v' w5 hrow5 o5 hloc)
      have o6 : Only (fun b => w.heap.size ≤ b) w w5 := ho.trans (o5.mono fun b _ q => (hrow.lt b q).1)
      clear o5 hrow ho
      go_wp2_with fail
      go_roundw
      case rel => exact ⟨j + 1, hlt, by go_num, by rw [hms.out]; simpa using hrow5, o6⟩
      case measure => simp [intOf]; omega
    · obtain rfl : j = n := by omega
      go_wp2_with fail
      go_ret
      exact ⟨_, rfl, hrow, ⟨ho.os, ho.tape, ho.output, ho.size, fun b hb _ => ho.block b hb (by omega)⟩⟩

end BK
end Go.Proofs.YtdgnfdheofacgaaGreat
