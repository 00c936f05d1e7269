/- The walks of package lru at keys string and values int, fourth part: New, Get, Pin, Unpin, Pinned, Delete. -/
import Derived.Test.YtdgnfdheofacgaaUSI
import Derived.WalkLawsBesides
namespace Go.Proofs.Ytdgnfdheofacgaa
open Go.RowKit
namespace SI

/-- how much room New makes of a number -/
def cap (r : Int) : Int := min (max r 0) 100000

theorem new_walk (r : Int) (w : World) :
    Calls Try.prog 12 #[.int .i64 r] w fun e w' => e = .returned (.pointer (some ⟨w.heap.size + 1, 0, none⟩)) ∧
      Like w' ((w.alloc (.map #[] 0)).alloc (.cells #[.map (some w.heap.size), Value.string ⟨#[]⟩, Value.int .i64 0, .int .i64 0, .pointer (some ⟨w.heap.size + 1, 1, none⟩), .pointer (some ⟨w.heap.size + 1, 1, none⟩), .int .i64 (cap r)] 64)) := by
  have hmm := @run_makeMap Try.prog
  by_cases h1 : r < 0
  · have hc : cap r = 0 := by unfold cap; omega
    rw [hc]
    clear hc
    go_enter Try.func12, Try.ntmps12
    go_wp2_with fail
    go_region
    go_wp2_with fail
    go_ret
    exact ⟨rfl, rfl, rfl, rfl, rfl⟩
  · by_cases h2 : r ≤ 100000
    · have hc : cap r = r := by unfold cap; omega
      rw [hc]
      clear hc
      go_enter Try.func12, Try.ntmps12
      go_wp2_with fail
      go_region
      go_wp2_with fail
      go_ret
      exact ⟨rfl, rfl, rfl, rfl, rfl⟩
    · have hc : cap r = 100000 := by unfold cap; omega
      rw [hc]
      clear hc
      go_enter Try.func12, Try.ntmps12
      go_wp2_with fail
      go_region
      go_wp2_with fail
      go_ret
      exact ⟨rfl, rfl, rfl, rfl, rfl⟩

theorem new_any (r : Int) (w : World) :
    Calls Try.prog 12 #[.int .i64 r] w fun e w' => ∃ c F, e = .returned (.pointer (some ⟨c, 0, none⟩)) ∧ Is F w' c (cap r) [] ∧ Only (fun _ => False) w w' ∧ ∀ b, F b → w.heap.size ≤ b := by
  refine (new_walk r w).mono ?_
  rintro e w' ⟨rfl, h⟩
  obtain ⟨h1, h2⟩ := LruIs.made (K := K) (V := V) (d := .string) w 64 _ _ _ (cap r) h
  exact ⟨_, _, rfl, h1, h2, fun b q => by omega⟩

section
variable {F : Nat → Prop} {w : World} {c : Nat} {room : Int} {S : List (Slot ByteArray Int)}

/-- the pins of a key may go up by one -/
def Pinnable (S : List (Slot ByteArray Int)) (k : ByteArray) : Prop := ∀ s, slotOf S k = some s → 0 ≤ s.pins ∧ s.pins + 1 ≤ 9223372036854775807

theorem pin_any (h : Is F w c room S) (k : ByteArray) (hp : Pinnable S k) :
    Calls Try.prog 14 #[.pointer (some ⟨c, 0, none⟩), Value.string k] w fun e w' => e = .returned (.bool (slotOf S k).isSome) ∧ Is F w' c room (turnS S k fun s => { s with pins := s.pins + 1 }) ∧ Only F w w' := by
  have hN := h.kNodup
  rcases h.cases inj k with ⟨M, f, A, x, B, h, hS, hk, hf, hs, hw⟩ | ⟨M, f, L, h, hS, hf, hs, hno⟩
  · obtain ⟨hp1, hp2⟩ := hp x.s hs
    have e : (turnS S k fun s => { s with pins := s.pins + 1 }) = (A ++ ⟨x.b, { x.s with pins := x.s.pins + 1 }⟩ :: B).map (·.s) := by
      rw [← hS, List.map_append, List.map_cons] at hN ⊢
      rw [← hk, turnS_mid hN]; simp
    rw [hs, e]
    clear e hs hw hS hk hp hN
    have HF := hide hf
    clear hf
    obtain ⟨h1, o1⟩ := h.setPins (x.s.pins + 1)
    have hc : w.cell? ⟨x.b, 2, none⟩ = some (.int .i64 x.s.pins) := (h.core.nodes x (by simp)).pins
    have hfr : w.frozen? ⟨x.b, 2, none⟩ = false := (h.core.nodes x (by simp)).free 2
    go_enter Try.func14, Try.ntmps14
    go_wp2_with fail
    refine (find_hit h HF.out).mono ?_
    rintro e w' ⟨rfl, rfl⟩
    go_wp2_with fail
    go_ret
    exact ⟨rfl, ⟨_, _, _, h1, rfl⟩, o1⟩
  · have e : (turnS S k fun s => { s with pins := s.pins + 1 }) = S := turnS_none (by rw [← hS]; intro s q; obtain ⟨y, hy, rfl⟩ := List.mem_map.1 q; exact hno y hy) _
    rw [hs, e]
    have hI : Is F w c room S := ⟨_, _, _, h, hS⟩
    clear e hs hS hN
    have HF := hide hf
    clear hf
    go_enter Try.func14, Try.ntmps14
    go_wp2_with fail
    refine (find_miss h HF.out).mono ?_
    rintro e w' ⟨rfl, rfl⟩
    go_wp2_with fail
    go_ret
    exact ⟨rfl, hI, Only.refl _ _⟩

end
end SI
end Go.Proofs.Ytdgnfdheofacgaa
