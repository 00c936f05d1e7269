/- The walk of lru's Keys at keys int and values int: the keys, the one that was used last first. -/
import Derived.Test.YtdgnfdheofacgaaGreatTII
import Derived.Test.YtdgnfdheofacgaaGreatWords
namespace Go.Proofs.YtdgnfdheofacgaaGreat
open Go.RowKit
namespace II

theorem undS : Tryz.prog.underlying 65 = some (.slice 3) := by kernel_rfl
theorem infS : (Tryz.prog.info? 3).map (fun i => (i.zero, i.size, i.bytes)) = some (some (.int .i64 0), 1, 8) := by kernel_rfl

set_option maxHeartbeats 1000000 in
theorem keys_any {F : Nat → Prop} {w : World} {c : Nat} {room : Int} {S : List (Slot Int Int)} (h : Is F w c room S) (hn : S.length ≤ 1000000) :
    Calls Tryz.prog 17 #[.pointer (some ⟨c, 0, none⟩)] w fun e w' => ∃ v, e = .returned v ∧ w'.ownsRow w.heap.size 3 1 v S.length (S.map fun s => K s.k) ∧ Only (fun _ => False) w w' := by
  have hlen := len_any h
  obtain ⟨M, f, L, h, rfl⟩ := h
  rw [List.length_map] at hlen hn ⊢
  rw [List.map_map]
  have hfun : ((fun s : Slot Int Int => K s.k) ∘ fun x : Nd Int Int => x.s) = fun x : Nd Int Int => K x.s.k := rfl
  rw [hfun]
  clear hfun
  cases L with
  | nil =>
    clear h hn
    go_enter Tryz.func17, Tryz.ntmps17
    go_wp2_with fail
    refine hlen.mono ?_
    clear hlen
    rintro e w' ⟨rfl, rfl⟩
    simp only [List.length_nil]
    go_wp2_with fail
    go_ret
    exact ⟨_, rfl, World.ownsRow_nil _ _ _ _, Only.refl _ _⟩
  | cons x0 L0 =>
    have hne : (((x0 :: L0).length : Int) == 0) = false := by simp; omega
    obtain ⟨L, hL⟩ : ∃ L, L = x0 :: L0 := ⟨_, rfl⟩
    rw [← hL] at h hlen hn hne ⊢
    clear hL
    have cl : w.cell? ⟨c, 5, none⟩ = some (ptr (firstP c L)) := (h.core.link (A := []) (B := L) (by simp)).1
    obtain ⟨j, hj, hjs⟩ := info_size sizeN
    have hj0 : j.size ≠ 0 := by omega
    have HS : Hid (j.size ≠ 0) := hj0
    have HI : Hid (Tryz.prog.info? 34 = some j) := hj
    have HH := hide h
    clear hj hjs hj0 h
    go_enter Tryz.func17, Tryz.ntmps17
    go_wp2_with fail
    refine hlen.mono ?_
    clear hlen
    rintro e w' ⟨rfl, rfl⟩
    go_wp2_with fail
    clear cl
    go_loopg [3, 4] L.length (fun k v x wr => ∃ A B, L = A ++ B ∧ B.length = k ∧ x = ptr (firstP c B) ∧ wr.ownsRow w.heap.size 3 1 v A.length (A.map fun x => K x.s.k) ∧ Only (fun b => w.heap.size ≤ b) w wr)
    case atStart => exact ⟨[], L, by simp, rfl, rfl, World.ownsRow_nil _ _ _ _, Only.refl _ _⟩
    case round =>
      obtain ⟨A, B, hL, hB, hx, hrow, ho⟩ := hrel
      have hsz := ho.size
      have hr := HH.out.kept ho (fun b q => Nat.not_le.2 (HH.out.flt b q))
      cases B with
      | nil =>
        obtain rfl : u4 = .pointer (some ⟨c, 1, none⟩) := hx
        have hself := run_neq_self (P := Tryz.prog) (w := wr) (a := ⟨c, 1, none⟩) undP HI.out
        rw [List.append_nil] at hL
        subst hL
        clear hB hr
        go_wp2_with fail
        go_ret
        exact ⟨_, rfl, hrow, ⟨ho.os, ho.tape, ho.output, ho.size, fun b hb _ => ho.block b hb (Nat.not_le.2 hb)⟩⟩
      | cons y B =>
        rw [firstP_cons] at hx
        obtain rfl : u4 = .pointer (some ⟨y.b, 0, none⟩) := hx
        have hy : y ∈ L := by rw [hL]; simp
        have hnd := hr.core.nodes y hy
        have hfar := run_neq_far (P := Tryz.prog) (a := ⟨y.b, 0, none⟩) (b := ⟨c, 1, none⟩) undP HI.out HS.out (hr.core.b_ne hy) hnd.key hr.core.base.m hnd.free hr.core.base.free
        have ck : wr.cell? ⟨y.b, 0, none⟩ = some (K y.s.k) := hnd.key
        have hlk : wr.cell? ⟨y.b, 4, none⟩ = some (ptr (firstP c B)) := by
          have := (hr.core.link (A := A ++ [y]) (B := B) (by rw [hL]; simp)).1
          rw [lastP_snoc] at this; exact this
        have hlen : B.length < gk := by rw [← hB]; simp
        have hAl : A.length ≤ 1000000 := by have := congrArg List.length hL; simp at this; omega
        have hylt : y.b < w.heap.size := HH.out.flt y.b (HH.out.fl y hy)
        have HL : Hid (L = (A ++ [y]) ++ B) := by show L = (A ++ [y]) ++ B; rw [hL]; simp
        have HK : Hid ((A ++ [y]).map (fun x => K x.s.k) = A.map (fun x => K x.s.k) ++ [K y.s.k]) := by show (A ++ [y]).map (fun x => K x.s.k) = _; simp
        have HAL : Hid ((A ++ [y]).length = A.length + 1) := by show (A ++ [y]).length = _; simp
        clear hL hB hr hnd hy
        go_wp2_with (at_builtin; refine wpList_append_one rfl _ _ _ rfl w.heap.size 3 (.int .i64 0) 8 undS infS rfl _ _ _ rfl hrow _ _ rfl rfl (by omega) (by omega) hsz ?_; intro v' w5 hrow5 o5 hloc; have ho5 : Only (fun b => w.heap.size ≤ b) w w5 := ho.trans (o5.mono fun b _ q => (hrow.lt b q).1); have hlk5 : w5.cell? ⟨y.b, 4, none⟩ = some (ptr (firstP c B)) := (o5.cell (p := ⟨y.b, 4, none⟩) (lt_of_cell hlk) (fun q => absurd (hrow.lt y.b q).1 (Nat.not_le.2 hylt))).trans hlk)
        rw [← HK.out, ← HAL.out] at hrow5
        clear o5 hrow ho hloc
        go_wp2_with fail
        go_roundg B.length
        case measure => exact hlen
        case rel => exact ⟨A ++ [y], B, HL.out, rfl, rfl, hrow5, ho5⟩

end II
end Go.Proofs.YtdgnfdheofacgaaGreat
