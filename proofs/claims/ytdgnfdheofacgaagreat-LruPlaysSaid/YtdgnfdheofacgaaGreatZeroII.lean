/- A cache of package lru at keys int and values int, the zero value let in ('CIs'): each method's contract. -/
import Derived.Test.YtdgnfdheofacgaaGreatKeysII
namespace Go.Proofs.YtdgnfdheofacgaaGreat
open Go.RowKit
namespace II

/-- the zero value of a cache -/
structure Zero (w : World) (c : Nat) : Prop where
  m : w.cell? ⟨c, 0, none⟩ = some (.map none)
  room : w.cell? ⟨c, 6, none⟩ = some (.int .i64 0)
  lt : c < w.heap.size

/-- A cache that New made, or the zero value. -/
def CIs (F : Nat → Prop) (w : World) (c : Nat) (room : Int) (S : List (Slot Int Int)) : Prop := Is F w c room S ∨ (Zero w c ∧ (∀ b, F b ↔ b = c) ∧ room = 0 ∧ S = [])

section
variable {F : Nat → Prop} {w w' : World} {c : Nat} {room : Int} {S : List (Slot Int Int)}

theorem CIs.flt (h : CIs F w c room S) : ∀ b, F b → b < w.heap.size := by
  rcases h with h | ⟨h, e, _⟩
  · exact LruIs.flt h
  · intro b q; rw [(e b).1 q]; exact h.lt

theorem CIs.kept {T : Nat → Prop} (h : CIs F w c room S) (hk : Only T w w') (hs : ∀ b, F b → ¬ T b) : CIs F w' c room S := by
  rcases h with h | ⟨h, e, r⟩
  · exact .inl (h.kept hk hs)
  · have hc := hs c ((e c).2 rfl)
    exact .inr ⟨⟨(hk.cell (p := ⟨c, 0, none⟩) h.lt hc).trans h.m, (hk.cell (p := ⟨c, 6, none⟩) h.lt hc).trans h.room, Nat.lt_of_lt_of_le h.lt hk.size⟩, e, r⟩

theorem CIs.nodup (h : CIs F w c room S) : (S.map (·.k)).Nodup := by
  rcases h with h | ⟨_, _, _, rfl⟩
  · exact LruIs.kNodup h
  · simp

theorem find_zero (h : Zero w c) (k : Int) : Calls Tryz.prog 23 #[.pointer (some ⟨c, 0, none⟩), .int .i64 k] w fun e w' => e = .returned (.pointer none) ∧ w = w' :=
  have hl := lookup_nil (P := Tryz.prog) (w := w) undM undK zeroP (isk k) false
  by
    have hm := h.m
    clear h
    go_enter Tryz.func23, Tryz.ntmps23
    go_wp2_with fail
    go_ret
    exact ⟨rfl, rfl⟩

theorem room_zero (h : Zero w c) : Calls Tryz.prog 21 #[.pointer (some ⟨c, 0, none⟩)] w fun e w' => e = .returned (.int .i64 0) ∧ w = w' := by
  have hm := h.room
  clear h
  go_enter Tryz.func21, Tryz.ntmps21
  go_wp2_with fail
  go_ret
  exact ⟨rfl, rfl⟩

theorem len_zero (h : Zero w c) : Calls Tryz.prog 20 #[.pointer (some ⟨c, 0, none⟩)] w fun e w' => e = .returned (.int .i64 0) ∧ w = w' := by
  have hm := h.m
  clear h
  go_enter Tryz.func20, Tryz.ntmps20
  go_wp2_with fail
  go_ret
  exact ⟨rfl, rfl⟩

theorem put_zero (h : Zero w c) (k v : Int) : Calls Tryz.prog 8 #[.pointer (some ⟨c, 0, none⟩), .int .i64 k, .int .i64 v] w fun e w' => e = .returned (.tuple #[.int .i64 0, .int .i64 0, .bool false, .bool false]) ∧ Only (fun _ => False) w w' := by
  have kept : ∀ o : Obj, Zero (w.alloc o) c := fun o => ⟨cell_alloc _ h.m, cell_alloc _ h.room, by simp; exact Nat.lt_succ_of_lt h.lt⟩
  have HK := hide kept
  clear kept h
  go_enter Tryz.func8, Tryz.ntmps8
  go_wp2_with fail
  refine (find_zero (HK.out _) k).mono ?_
  rintro e w' ⟨rfl, rfl⟩
  go_wp2_with fail
  refine (room_zero (HK.out _)).mono ?_
  rintro e w' ⟨rfl, rfl⟩
  go_wp2_with fail
  go_region
  go_wp2_with fail
  (try simp only [Exit.inBlock, Exit.then])
  refine bodyPost_ret (results_tmp4 rfl _ _ _) rfl ?_
  exact ⟨rfl, (Only.alloc _ w _).trans (Only.drew _ _)⟩

theorem peek_zero (h : Zero w c) (k : Int) : Calls Tryz.prog 15 #[.pointer (some ⟨c, 0, none⟩), .int .i64 k] w fun e w' => e = .returned (.tuple #[.int .i64 0, .bool false]) ∧ w = w' := by
  have HK := hide h
  clear h
  go_enter Tryz.func15, Tryz.ntmps15
  go_wp2_with fail
  refine (find_zero HK.out k).mono ?_
  rintro e w' ⟨rfl, rfl⟩
  go_wp2_with fail
  go_ret2
  exact ⟨rfl, rfl⟩

theorem get_zero (h : Zero w c) (k : Int) : Calls Tryz.prog 10 #[.pointer (some ⟨c, 0, none⟩), .int .i64 k] w fun e w' => e = .returned (.tuple #[.int .i64 0, .bool false]) ∧ w = w' := by
  have HK := hide h
  clear h
  go_enter Tryz.func10, Tryz.ntmps10
  go_wp2_with fail
  refine (find_zero HK.out k).mono ?_
  rintro e w' ⟨rfl, rfl⟩
  go_wp2_with fail
  refine (peek_zero HK.out k).mono ?_
  rintro e w' ⟨rfl, rfl⟩
  go_wp2_with fail
  go_ret2
  exact ⟨rfl, rfl⟩

theorem pin_zero (h : Zero w c) (k : Int) : Calls Tryz.prog 12 #[.pointer (some ⟨c, 0, none⟩), .int .i64 k] w fun e w' => e = .returned (.bool false) ∧ w = w' := by
  have HK := hide h
  clear h
  go_enter Tryz.func12, Tryz.ntmps12
  go_wp2_with fail
  refine (find_zero HK.out k).mono ?_
  rintro e w' ⟨rfl, rfl⟩
  go_wp2_with fail
  go_ret
  exact ⟨rfl, rfl⟩

theorem unpin_zero (h : Zero w c) (k : Int) : Calls Tryz.prog 13 #[.pointer (some ⟨c, 0, none⟩), .int .i64 k] w fun e w' => e = .returned (.bool false) ∧ w = w' := by
  have HK := hide h
  clear h
  go_enter Tryz.func13, Tryz.ntmps13
  go_wp2_with fail
  refine (find_zero HK.out k).mono ?_
  rintro e w' ⟨rfl, rfl⟩
  go_wp2_with fail
  go_ret
  exact ⟨rfl, rfl⟩

theorem delete_zero (h : Zero w c) (k : Int) : Calls Tryz.prog 14 #[.pointer (some ⟨c, 0, none⟩), .int .i64 k] w fun e w' => e = .returned (.bool false) ∧ w = w' := by
  have HK := hide h
  clear h
  go_enter Tryz.func14, Tryz.ntmps14
  go_wp2_with fail
  refine (find_zero HK.out k).mono ?_
  rintro e w' ⟨rfl, rfl⟩
  go_wp2_with fail
  go_ret
  exact ⟨rfl, rfl⟩

theorem pinned_zero (h : Zero w c) (k : Int) : Calls Tryz.prog 16 #[.pointer (some ⟨c, 0, none⟩), .int .i64 k] w fun e w' => e = .returned (.int .i64 0) ∧ w = w' := by
  have HK := hide h
  clear h
  go_enter Tryz.func16, Tryz.ntmps16
  go_wp2_with fail
  refine (find_zero HK.out k).mono ?_
  rintro e w' ⟨rfl, rfl⟩
  go_wp2_with fail
  go_ret
  exact ⟨rfl, rfl⟩

theorem keys_zero (h : Zero w c) : Calls Tryz.prog 17 #[.pointer (some ⟨c, 0, none⟩)] w fun e w' => e = .returned (.slice none 0 0) ∧ w = w' := by
  have HK := hide h
  clear h
  go_enter Tryz.func17, Tryz.ntmps17
  go_wp2_with fail
  refine (len_zero HK.out).mono ?_
  rintro e w' ⟨rfl, rfl⟩
  go_wp2_with fail
  go_ret
  exact ⟨rfl, rfl⟩

/-! ### the zero value let in -/
theorem cput (h : CIs F w c room S) (k v : Int) :
    Calls Tryz.prog 8 #[.pointer (some ⟨c, 0, none⟩), .int .i64 k, .int .i64 v] w fun e w' => ∃ F', e = .returned (.tuple #[.int .i64 (keyG (putS room S k v).2.1), .int .i64 (valG (putS room S k v).2.1), .bool (putS room S k v).2.1.isSome, .bool (putS room S k v).2.2]) ∧
      CIs F' w' c room (putS room S k v).1 ∧ Only F w w' ∧ ∀ b, F' b → F b ∨ w.heap.size ≤ b := by
  rcases h with h | ⟨h, e, rfl, rfl⟩
  · exact (put_any h k v).mono fun e w' ⟨F', q1, q2, q3, q4⟩ => ⟨F', q1, .inl q2, q3, q4⟩
  · have hp : putS 0 ([] : List (Slot Int Int)) k v = ([], none, false) := by simp [putS, slotOf]
    rw [hp]
    refine (put_zero h k v).mono fun e' w' ⟨q1, q2⟩ => ⟨F, q1, ?_, q2.mono fun _ _ q => q.elim, fun b q => .inl q⟩
    exact CIs.kept (.inr ⟨h, e, rfl, rfl⟩) q2 (fun _ _ q => q)

theorem cget (h : CIs F w c room S) (k : Int) :
    Calls Tryz.prog 10 #[.pointer (some ⟨c, 0, none⟩), .int .i64 k] w fun e w' => e = .returned (.tuple #[.int .i64 (valOf (slotOf S k)), .bool (slotOf S k).isSome]) ∧ CIs F w' c room (useS S k) ∧ Only F w w' := by
  rcases h with h | ⟨h, e, rfl, rfl⟩
  · exact (get_any h k).mono fun e w' ⟨q1, q2, q3⟩ => ⟨q1, .inl q2, q3⟩
  · refine (get_zero h k).mono ?_
    rintro e' w' ⟨rfl, rfl⟩
    exact ⟨rfl, .inr ⟨h, e, rfl, rfl⟩, Only.refl _ _⟩

theorem cpeek (h : CIs F w c room S) (k : Int) :
    Calls Tryz.prog 15 #[.pointer (some ⟨c, 0, none⟩), .int .i64 k] w fun e w' => e = .returned (.tuple #[.int .i64 (valOf (slotOf S k)), .bool (slotOf S k).isSome]) ∧ w = w' := by
  rcases h with h | ⟨h, e, rfl, rfl⟩
  · exact peek_any h k
  · exact peek_zero h k

theorem cpin (h : CIs F w c room S) (k : Int) (hp : Pinnable S k) :
    Calls Tryz.prog 12 #[.pointer (some ⟨c, 0, none⟩), .int .i64 k] w fun e w' => e = .returned (.bool (slotOf S k).isSome) ∧ CIs F w' c room (turnS S k fun s => { s with pins := s.pins + 1 }) ∧ Only F w w' := by
  rcases h with h | ⟨h, e, rfl, rfl⟩
  · exact (pin_any h k hp).mono fun e w' ⟨q1, q2, q3⟩ => ⟨q1, .inl q2, q3⟩
  · refine (pin_zero h k).mono ?_
    rintro e' w' ⟨rfl, rfl⟩
    exact ⟨rfl, .inr ⟨h, e, rfl, rfl⟩, Only.refl _ _⟩

theorem cunpin (h : CIs F w c room S) (k : Int) (hp : ∀ s ∈ S, 0 ≤ s.pins ∧ s.pins ≤ 9223372036854775807) :
    Calls Tryz.prog 13 #[.pointer (some ⟨c, 0, none⟩), .int .i64 k] w fun e w' => e = .returned (.bool (canUnpin (slotOf S k))) ∧ CIs F w' c room (if canUnpin (slotOf S k) = true then turnS S k fun s => { s with pins := s.pins - 1 } else S) ∧ Only F w w' := by
  rcases h with h | ⟨h, e, rfl, rfl⟩
  · exact (unpin_any h k hp).mono fun e w' ⟨q1, q2, q3⟩ => ⟨q1, .inl q2, q3⟩
  · refine (unpin_zero h k).mono ?_
    rintro e' w' ⟨rfl, rfl⟩
    exact ⟨rfl, .inr ⟨h, e, rfl, rfl⟩, Only.refl _ _⟩

theorem cpinned (h : CIs F w c room S) (k : Int) :
    Calls Tryz.prog 16 #[.pointer (some ⟨c, 0, none⟩), .int .i64 k] w fun e w' => e = .returned (.int .i64 (pinsOf (slotOf S k))) ∧ w = w' := by
  rcases h with h | ⟨h, e, rfl, rfl⟩
  · exact pinned_any h k
  · exact pinned_zero h k

theorem cdelete (h : CIs F w c room S) (k : Int) :
    Calls Tryz.prog 14 #[.pointer (some ⟨c, 0, none⟩), .int .i64 k] w fun e w' => e = .returned (.bool (slotOf S k).isSome) ∧ CIs F w' c room (without S k) ∧ Only F w w' := by
  rcases h with h | ⟨h, e, rfl, rfl⟩
  · exact (delete_any h k).mono fun e w' ⟨q1, q2, q3⟩ => ⟨q1, .inl q2, q3⟩
  · refine (delete_zero h k).mono ?_
    rintro e' w' ⟨rfl, rfl⟩
    exact ⟨rfl, .inr ⟨h, e, rfl, rfl⟩, Only.refl _ _⟩

theorem ckeys (h : CIs F w c room S) (hn : S.length ≤ 1000000) :
    Calls Tryz.prog 17 #[.pointer (some ⟨c, 0, none⟩)] w fun e w' => ∃ v, e = .returned v ∧ w'.ownsRow w.heap.size 3 1 v S.length (S.map fun s => K s.k) ∧ Only (fun _ => False) w w' := by
  rcases h with h | ⟨h, e, rfl, rfl⟩
  · exact keys_any h hn
  · refine (keys_zero h).mono ?_
    rintro e' w' ⟨rfl, rfl⟩
    exact ⟨_, rfl, World.ownsRow_nil _ _ _ _, Only.refl _ _⟩

theorem clen (h : CIs F w c room S) : Calls Tryz.prog 20 #[.pointer (some ⟨c, 0, none⟩)] w fun e w' => e = .returned (.int .i64 S.length) ∧ w = w' := by
  rcases h with h | ⟨h, e, rfl, rfl⟩
  · exact len_any h
  · exact len_zero h

theorem croom (h : CIs F w c room S) : Calls Tryz.prog 21 #[.pointer (some ⟨c, 0, none⟩)] w fun e w' => e = .returned (.int .i64 room) ∧ w = w' := by
  rcases h with h | ⟨h, e, rfl, rfl⟩
  · exact room_any h
  · exact room_zero h

end
end II
end Go.Proofs.YtdgnfdheofacgaaGreat
