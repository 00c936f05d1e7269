/- The walks of package lru at keys int and values int, fourth part: New, Get, Pin, Unpin, Pinned, Delete. -/
import Derived.Test.YtdgnfdheofacgaaGreatUII
import Derived.WalkLawsBesides
namespace Go.Proofs.YtdgnfdheofacgaaGreat
open Go.RowKit
namespace II

/-- how much room New makes of a number -/
def cap (r : Int) : Int := min (max r 0) 100000

theorem new_walk (r : Int) (w : World) :
    Calls Tryz.prog 5 #[.int .i64 r] w fun e w' => e = .returned (.pointer (some ⟨w.heap.size + 1, 0, none⟩)) ∧
      Like w' ((w.alloc (.map #[] 0)).alloc (.cells #[.map (some w.heap.size), Value.int .i64 0, Value.int .i64 0, .int .i64 0, .pointer (some ⟨w.heap.size + 1, 1, none⟩), .pointer (some ⟨w.heap.size + 1, 1, none⟩), .int .i64 (cap r)] 36)) := by
  have hmm := @run_makeMap Tryz.prog
  by_cases h1 : r < 0
  · have hc : cap r = 0 := by unfold cap; omega
    rw [hc]
    clear hc
    go_enter Tryz.func5, Tryz.ntmps5
    go_wp2_with fail
    go_region
    go_wp2_with fail
    go_ret
    exact ⟨rfl, rfl, rfl, rfl, rfl⟩
  · by_cases h2 : r ≤ 100000
    · have hc : cap r = r := by unfold cap; omega
      rw [hc]
      clear hc
      go_enter Tryz.func5, Tryz.ntmps5
      go_wp2_with fail
      go_region
      go_wp2_with fail
      go_ret
      exact ⟨rfl, rfl, rfl, rfl, rfl⟩
    · have hc : cap r = 100000 := by unfold cap; omega
      rw [hc]
      clear hc
      go_enter Tryz.func5, Tryz.ntmps5
      go_wp2_with fail
      go_region
      go_wp2_with fail
      go_ret
      exact ⟨rfl, rfl, rfl, rfl, rfl⟩

theorem new_any (r : Int) (w : World) :
    Calls Tryz.prog 5 #[.int .i64 r] w fun e w' => ∃ c F, e = .returned (.pointer (some ⟨c, 0, none⟩)) ∧ Is F w' c (cap r) [] ∧ Only (fun _ => False) w w' ∧ ∀ b, F b → w.heap.size ≤ b := by
  refine (new_walk r w).mono ?_
  rintro e w' ⟨rfl, h⟩
  obtain ⟨h1, h2⟩ := LruIs.made (K := K) (V := V) (d := .int .i64) w 36 _ _ _ (cap r) h
  exact ⟨_, _, rfl, h1, h2, fun b q => by omega⟩

section
variable {F : Nat → Prop} {w : World} {c : Nat} {room : Int} {S : List (Slot Int Int)}

theorem get_any (h : Is F w c room S) (k : Int) :
    Calls Tryz.prog 10 #[.pointer (some ⟨c, 0, none⟩), Value.int .i64 k] w fun e w' => e = .returned (.tuple #[Value.int .i64 (valOf (slotOf S k)), .bool (slotOf S k).isSome]) ∧ Is F w' c room (useS S k) ∧ Only F w w' := by
  rcases h.cases inj k with ⟨M, f, A, x, B, h, hS, hk, hf, hs, hw⟩ | ⟨M, f, L, h, hS, hf, hs, _⟩
  · have e : useS S k = x.s :: (A ++ B).map (·.s) := by simp [useS, hs, hw]
    rw [hs, e]
    clear e hs hw hS
    have HF := hide hf
    have HK := hide hk
    clear hf hk
    go_enter Tryz.func10, Tryz.ntmps10
    go_wp2_with fail
    refine (find_hit h HF.out).mono ?_
    rintro e w' ⟨rfl, rfl⟩
    go_wp2_with fail
    refine (use_any h).mono ?_
    rintro e w1 ⟨rfl, h1, o1⟩
    go_wp2_with fail
    have hI : Is F w1 c room (x.s :: (A ++ B).map (·.s)) := ⟨_, _, _, h1, rfl⟩
    refine (peek_any hI k).mono ?_
    rintro e w' ⟨rfl, rfl⟩
    have hsl : slotOf (x.s :: (A ++ B).map (·.s)) k = some x.s := by simp [slotOf, HK.out]
    rw [hsl]
    clear hsl
    go_wp2_with fail
    go_ret2
    exact ⟨rfl, hI, o1⟩
  · have e : useS S k = S := by simp [useS, hs]
    have hI : Is F w c room S := ⟨_, _, _, h, hS⟩
    have HS := hide hs
    rw [e]
    clear e hs hS
    have HF := hide hf
    clear hf
    go_enter Tryz.func10, Tryz.ntmps10
    go_wp2_with fail
    refine (find_miss h HF.out).mono ?_
    rintro e w' ⟨rfl, rfl⟩
    go_wp2_with fail
    refine (peek_any hI k).mono ?_
    rintro e w' ⟨rfl, rfl⟩
    go_wp2_with fail
    go_ret2
    exact ⟨rfl, hI, Only.refl _ _⟩

/-- the pins of a key may go up by one -/
def Pinnable (S : List (Slot Int Int)) (k : Int) : Prop := ∀ s, slotOf S k = some s → 0 ≤ s.pins ∧ s.pins + 1 ≤ 9223372036854775807

theorem pin_any (h : Is F w c room S) (k : Int) (hp : Pinnable S k) :
    Calls Tryz.prog 12 #[.pointer (some ⟨c, 0, none⟩), Value.int .i64 k] w fun e w' => e = .returned (.bool (slotOf S k).isSome) ∧ Is F w' c room (turnS S k fun s => { s with pins := s.pins + 1 }) ∧ Only F w w' := by
  have hN := h.kNodup
  rcases h.cases inj k with ⟨M, f, A, x, B, h, hS, hk, hf, hs, hw⟩ | ⟨M, f, L, h, hS, hf, hs, hno⟩
  · obtain ⟨hp1, hp2⟩ := hp x.s hs
    have e : (turnS S k fun s => { s with pins := s.pins + 1 }) = (A ++ ⟨x.b, { x.s with pins := x.s.pins + 1 }⟩ :: B).map (·.s) := by
      rw [← hS, List.map_append, List.map_cons] at hN ⊢
      rw [← hk, turnS_mid hN]; simp
    rw [hs, e]
    clear e hs hw hS hk hp hN
    have HF := hide hf
    clear hf
    obtain ⟨h1, o1⟩ := h.setPins (x.s.pins + 1)
    have hc : w.cell? ⟨x.b, 2, none⟩ = some (.int .i64 x.s.pins) := (h.core.nodes x (by simp)).pins
    have hfr : w.frozen? ⟨x.b, 2, none⟩ = false := (h.core.nodes x (by simp)).free 2
    go_enter Tryz.func12, Tryz.ntmps12
    go_wp2_with fail
    refine (find_hit h HF.out).mono ?_
    rintro e w' ⟨rfl, rfl⟩
    go_wp2_with fail
    go_ret
    exact ⟨rfl, ⟨_, _, _, h1, rfl⟩, o1⟩
  · have e : (turnS S k fun s => { s with pins := s.pins + 1 }) = S := turnS_none (by rw [← hS]; intro s q; obtain ⟨y, hy, rfl⟩ := List.mem_map.1 q; exact hno y hy) _
    rw [hs, e]
    have hI : Is F w c room S := ⟨_, _, _, h, hS⟩
    clear e hs hS hN
    have HF := hide hf
    clear hf
    go_enter Tryz.func12, Tryz.ntmps12
    go_wp2_with fail
    refine (find_miss h HF.out).mono ?_
    rintro e w' ⟨rfl, rfl⟩
    go_wp2_with fail
    go_ret
    exact ⟨rfl, hI, Only.refl _ _⟩

/-- may a pin be taken away? -/
def canUnpin (o : Option (Slot Int Int)) : Bool := match o with | some s => !(s.pins == 0) | none => false

theorem unpin_any (h : Is F w c room S) (k : Int) (hp : ∀ s ∈ S, 0 ≤ s.pins ∧ s.pins ≤ 9223372036854775807) :
    Calls Tryz.prog 13 #[.pointer (some ⟨c, 0, none⟩), Value.int .i64 k] w fun e w' => e = .returned (.bool (canUnpin (slotOf S k))) ∧ Is F w' c room (if canUnpin (slotOf S k) = true then turnS S k fun s => { s with pins := s.pins - 1 } else S) ∧ Only F w w' := by
  have hN := h.kNodup
  rcases h.cases inj k with ⟨M, f, A, x, B, h, hS, hk, hf, hs, hw⟩ | ⟨M, f, L, h, hS, hf, hs, hno⟩
  · obtain ⟨hp1, hp2⟩ := hp x.s (by rw [← hS]; simp)
    by_cases h0 : x.s.pins = 0
    · have ec : canUnpin (slotOf S k) = false := by rw [hs]; simp [canUnpin, h0]
      rw [ec]
      have hI : Is F w c room S := ⟨_, _, _, h, hS⟩
      clear hs hw hS hk hp hN ec
      have HF := hide hf
      clear hf
      have hc : w.cell? ⟨x.b, 2, none⟩ = some (.int .i64 x.s.pins) := (h.core.nodes x (by simp)).pins
      rw [h0] at hc
      clear h0 hp1 hp2
      go_enter Tryz.func13, Tryz.ntmps13
      go_wp2_with fail
      refine (find_hit h HF.out).mono ?_
      rintro e w' ⟨rfl, rfl⟩
      go_wp2_with fail
      go_ret
      exact ⟨rfl, hI, Only.refl _ _⟩
    · have ec : canUnpin (slotOf S k) = true := by rw [hs]; simp [canUnpin, h0]
      have e : (turnS S k fun s => { s with pins := s.pins - 1 }) = (A ++ ⟨x.b, { x.s with pins := x.s.pins - 1 }⟩ :: B).map (·.s) := by
        rw [← hS, List.map_append, List.map_cons] at hN ⊢
        rw [← hk, turnS_mid hN]; simp
      rw [ec, if_pos rfl, e]
      clear e hs hw hS hk hp hN ec
      have HF := hide hf
      clear hf
      obtain ⟨h1, o1⟩ := h.setPins (x.s.pins - 1)
      have hc : w.cell? ⟨x.b, 2, none⟩ = some (.int .i64 x.s.pins) := (h.core.nodes x (by simp)).pins
      have hfr : w.frozen? ⟨x.b, 2, none⟩ = false := (h.core.nodes x (by simp)).free 2
      have hb : (x.s.pins == 0) = false := by simp [h0]
      clear h0
      go_enter Tryz.func13, Tryz.ntmps13
      go_wp2_with fail
      refine (find_hit h HF.out).mono ?_
      rintro e w' ⟨rfl, rfl⟩
      go_wp2_with fail
      go_ret
      exact ⟨rfl, ⟨_, _, _, h1, rfl⟩, o1⟩
  · have ec : canUnpin (slotOf S k) = false := by rw [hs]; rfl
    rw [ec]
    have hI : Is F w c room S := ⟨_, _, _, h, hS⟩
    clear hs hS hN ec
    have HF := hide hf
    clear hf
    go_enter Tryz.func13, Tryz.ntmps13
    go_wp2_with fail
    refine (find_miss h HF.out).mono ?_
    rintro e w' ⟨rfl, rfl⟩
    go_wp2_with fail
    go_ret
    exact ⟨rfl, hI, Only.refl _ _⟩

/-- the pins of a key, or 0 -/
def pinsOf (o : Option (Slot Int Int)) : Int := match o with | some s => s.pins | none => 0

theorem pinned_any (h : Is F w c room S) (k : Int) :
    Calls Tryz.prog 16 #[.pointer (some ⟨c, 0, none⟩), Value.int .i64 k] w fun e w' => e = .returned (.int .i64 (pinsOf (slotOf S k))) ∧ w = w' := by
  rcases h.cases inj k with ⟨M, f, A, x, B, h, hS, hk, hf, hs, hw⟩ | ⟨M, f, L, h, hS, hf, hs, hno⟩
  · rw [hs]
    clear hs hw hS hk
    have HF := hide hf
    clear hf
    have hc : w.cell? ⟨x.b, 2, none⟩ = some (.int .i64 x.s.pins) := (h.core.nodes x (by simp)).pins
    go_enter Tryz.func16, Tryz.ntmps16
    go_wp2_with fail
    refine (find_hit h HF.out).mono ?_
    rintro e w' ⟨rfl, rfl⟩
    go_wp2_with fail
    go_ret
    exact ⟨rfl, rfl⟩
  · rw [hs]
    clear hs hS
    have HF := hide hf
    clear hf
    go_enter Tryz.func16, Tryz.ntmps16
    go_wp2_with fail
    refine (find_miss h HF.out).mono ?_
    rintro e w' ⟨rfl, rfl⟩
    go_wp2_with fail
    go_ret
    exact ⟨rfl, rfl⟩

theorem delete_any (h : Is F w c room S) (k : Int) :
    Calls Tryz.prog 14 #[.pointer (some ⟨c, 0, none⟩), Value.int .i64 k] w fun e w' => e = .returned (.bool (slotOf S k).isSome) ∧ Is F w' c room (without S k) ∧ Only F w w' := by
  rcases h.cases inj k with ⟨M, f, A, x, B, h, hS, hk, hf, hs, hw⟩ | ⟨M, f, L, h, hS, hf, hs, hno⟩
  · rw [hs, hw]
    subst hk
    clear hs hw hS
    have HF := hide hf
    clear hf
    go_enter Tryz.func14, Tryz.ntmps14
    go_wp2_with fail
    refine (find_hit h HF.out).mono ?_
    rintro e w' ⟨rfl, rfl⟩
    go_wp2_with fail
    obtain ⟨p, n, vp, vn, e1, e2, e3, e4, e5, e6, e7⟩ := h.off
    refine (off_walk x.b p.1 p.2 n.1 n.2 vp vn _ e1 e2 e3 e4 e5 e6).mono ?_
    clear e1 e2 e3 e4 e5 e6
    rintro e w1 ⟨rfl, hlk⟩
    obtain ⟨c1, n1, m1, o1⟩ := e7 w1 hlk
    clear e7 hlk
    obtain ⟨ob, hdel, m2⟩ := m1.delete (P := Tryz.prog) undM undK (isk x.s.k)
    have hm := c1.base.m
    go_wp2_with fail
    go_ret
    have c2 := c1.kept_map m1 ob
    exact ⟨rfl, ⟨_, _, _, h.gone inj c2 m2 o1 (Only.setMap w1 h.fm ob), rfl⟩, o1.trans (Only.setMap w1 h.fm ob)⟩
  · have e : without S k = S := without_none (by rw [← hS]; intro s q; obtain ⟨y, hy, rfl⟩ := List.mem_map.1 q; exact hno y hy)
    rw [hs, e]
    have hI : Is F w c room S := ⟨_, _, _, h, hS⟩
    clear hs hS e
    have HF := hide hf
    clear hf
    go_enter Tryz.func14, Tryz.ntmps14
    go_wp2_with fail
    refine (find_miss h HF.out).mono ?_
    rintro e w' ⟨rfl, rfl⟩
    go_wp2_with fail
    go_ret
    exact ⟨rfl, hI, Only.refl _ _⟩

end
end II
end Go.Proofs.YtdgnfdheofacgaaGreat
