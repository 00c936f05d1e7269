/- The walks of package lru at keys int and values int, second part: each method against the list of keys, values and pins. -/
import Derived.Test.YtdgnfdheofacgaaGreatWII
namespace Go.Proofs.YtdgnfdheofacgaaGreat
open Go.RowKit
namespace II

abbrev Is (F : Nat → Prop) (w : World) (c : Nat) (room : Int) (S : List (Slot Int Int)) : Prop := LruIs K V 1 (.int .i64) F w c room S

section
variable {F : Nat → Prop} {w : World} {c : Nat} {room : Int} {S : List (Slot Int Int)}

/-- the value at a key, or the zero value -/
def valOf (o : Option (Slot Int Int)) : Int := match o with | some s => s.v | none => 0

theorem len_any (h : Is F w c room S) :
    Calls Tryz.prog 20 #[.pointer (some ⟨c, 0, none⟩)] w fun e w' => e = .returned (.int .i64 S.length) ∧ w = w' := by
  obtain ⟨M, f, L, h, rfl⟩ := h
  have hm := h.core.base.m
  have hl := fun ty => h.map.len (P := Tryz.prog) undM ty
  rw [List.length_map]
  go_enter Tryz.func20, Tryz.ntmps20
  go_wp2_with fail
  go_ret
  exact ⟨rfl, rfl⟩

theorem room_any (h : Is F w c room S) :
    Calls Tryz.prog 21 #[.pointer (some ⟨c, 0, none⟩)] w fun e w' => e = .returned (.int .i64 room) ∧ w = w' := by
  obtain ⟨M, f, L, h, rfl⟩ := h
  have hm : w.cell? ⟨c, 6, none⟩ = some (.int .i64 room) := h.core.base.room
  go_enter Tryz.func21, Tryz.ntmps21
  go_wp2_with fail
  go_ret
  exact ⟨rfl, rfl⟩

theorem peek_any (h : Is F w c room S) (k : Int) :
    Calls Tryz.prog 15 #[.pointer (some ⟨c, 0, none⟩), Value.int .i64 k] w fun e w' => e = .returned (.tuple #[Value.int .i64 (valOf (slotOf S k)), .bool (slotOf S k).isSome]) ∧ w = w' := by
  rcases h.cases inj k with ⟨M, f, A, x, B, h, hS, hk, hf, hs, hw⟩ | ⟨M, f, L, h, hS, hf, hs, _⟩
  · have hv : w.cell? ⟨x.b, 1, none⟩ = some (Value.int .i64 x.s.v) := (h.core.nodes x (by simp)).val 0 (by omega)
    rw [hs]
    clear hs hw hS hk
    have HF := hide hf
    clear hf
    go_enter Tryz.func15, Tryz.ntmps15
    go_wp2_with fail
    refine (find_hit h HF.out).mono ?_
    rintro e w' ⟨rfl, rfl⟩
    go_wp2_with fail
    go_ret2
    exact ⟨rfl, rfl⟩
  · rw [hs]
    clear hs hS
    have HF := hide hf
    clear hf
    go_enter Tryz.func15, Tryz.ntmps15
    go_wp2_with fail
    refine (find_miss h HF.out).mono ?_
    rintro e w' ⟨rfl, rfl⟩
    go_wp2_with fail
    go_ret2
    exact ⟨rfl, rfl⟩

end
end II
end Go.Proofs.YtdgnfdheofacgaaGreat
