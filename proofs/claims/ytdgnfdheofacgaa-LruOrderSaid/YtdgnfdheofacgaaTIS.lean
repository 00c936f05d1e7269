/- The walks of package lru at keys int and values string, fourth part: New, Get, Pin, Unpin, Pinned, Delete. -/
import Derived.Test.YtdgnfdheofacgaaUIS
import Derived.WalkLawsBesides
namespace Go.Proofs.Ytdgnfdheofacgaa
open Go.RowKit
namespace IS

/-- how much room New makes of a number -/
def cap (r : Int) : Int := min (max r 0) 100000

theorem new_walk (r : Int) (w : World) :
    Calls Try.prog 8 #[.int .i64 r] w fun e w' => e = .returned (.pointer (some ⟨w.heap.size + 1, 0, none⟩)) ∧
      Like w' ((w.alloc (.map #[] 0)).alloc (.cells #[.map (some w.heap.size), Value.int .i64 0, Value.string ⟨#[]⟩, .int .i64 0, .pointer (some ⟨w.heap.size + 1, 1, none⟩), .pointer (some ⟨w.heap.size + 1, 1, none⟩), .int .i64 (cap r)] 55)) := by
  have hmm := @run_makeMap Try.prog
  by_cases h1 : r < 0
  · have hc : cap r = 0 := by unfold cap; omega
    rw [hc]
    clear hc
    go_enter Try.func8, Try.ntmps8
    go_wp2_with fail
    go_region
    go_wp2_with fail
    go_ret
    exact ⟨rfl, rfl, rfl, rfl, rfl⟩
  · by_cases h2 : r ≤ 100000
    · have hc : cap r = r := by unfold cap; omega
      rw [hc]
      clear hc
      go_enter Try.func8, Try.ntmps8
      go_wp2_with fail
      go_region
      go_wp2_with fail
      go_ret
      exact ⟨rfl, rfl, rfl, rfl, rfl⟩
    · have hc : cap r = 100000 := by unfold cap; omega
      rw [hc]
      clear hc
      go_enter Try.func8, Try.ntmps8
      go_wp2_with fail
      go_region
      go_wp2_with fail
      go_ret
      exact ⟨rfl, rfl, rfl, rfl, rfl⟩

theorem new_any (r : Int) (w : World) :
    Calls Try.prog 8 #[.int .i64 r] w fun e w' => ∃ c F, e = .returned (.pointer (some ⟨c, 0, none⟩)) ∧ Is F w' c (cap r) [] ∧ Only (fun _ => False) w w' ∧ ∀ b, F b → w.heap.size ≤ b := by
  refine (new_walk r w).mono ?_
  rintro e w' ⟨rfl, h⟩
  obtain ⟨h1, h2⟩ := LruIs.made (K := K) (V := V) (d := .int .i64) w 55 _ _ _ (cap r) h
  exact ⟨_, _, rfl, h1, h2, fun b q => by omega⟩

section
variable {F : Nat → Prop} {w : World} {c : Nat} {room : Int} {S : List (Slot Int ByteArray)}

theorem get_any (h : Is F w c room S) (k : Int) :
    Calls Try.prog 10 #[.pointer (some ⟨c, 0, none⟩), Value.int .i64 k] w fun e w' => e = .returned (.tuple #[Value.string (valOf (slotOf S k)), .bool (slotOf S k).isSome]) ∧ Is F w' c room (useS S k) ∧ Only F w w' := by
  rcases h.cases inj k with ⟨M, f, A, x, B, h, hS, hk, hf, hs, hw⟩ | ⟨M, f, L, h, hS, hf, hs, _⟩
  · have e : useS S k = x.s :: (A ++ B).map (·.s) := by simp [useS, hs, hw]
    rw [hs, e]
    clear e hs hw hS
    have HF := hide hf
    have HK := hide hk
    clear hf hk
    go_enter Try.func10, Try.ntmps10
    go_wp2_with fail
    refine (find_hit h HF.out).mono ?_
    rintro e w' ⟨rfl, rfl⟩
    go_wp2_with fail
    refine (use_any h).mono ?_
    rintro e w1 ⟨rfl, h1, o1⟩
    go_wp2_with fail
    have hI : Is F w1 c room (x.s :: (A ++ B).map (·.s)) := ⟨_, _, _, h1, rfl⟩
    refine (peek_any hI k).mono ?_
    rintro e w' ⟨rfl, rfl⟩
    have hsl : slotOf (x.s :: (A ++ B).map (·.s)) k = some x.s := by simp [slotOf, HK.out]
    rw [hsl]
    clear hsl
    go_wp2_with fail
    go_ret2
    exact ⟨rfl, hI, o1⟩
  · have e : useS S k = S := by simp [useS, hs]
    have hI : Is F w c room S := ⟨_, _, _, h, hS⟩
    have HS := hide hs
    rw [e]
    clear e hs hS
    have HF := hide hf
    clear hf
    go_enter Try.func10, Try.ntmps10
    go_wp2_with fail
    refine (find_miss h HF.out).mono ?_
    rintro e w' ⟨rfl, rfl⟩
    go_wp2_with fail
    refine (peek_any hI k).mono ?_
    rintro e w' ⟨rfl, rfl⟩
    go_wp2_with fail
    go_ret2
    exact ⟨rfl, hI, Only.refl _ _⟩

end
end IS
end Go.Proofs.Ytdgnfdheofacgaa
