/- The walks of package lru at keys int and values int: what each method does to a cache in memory. -/
import Derived.Test.YtdgnfdheofacgaaGreatRows
import Derived.Test.YtdgnfdheofacgaaGreatLruAt
import Derived.BigRegion
import Derived.RegionTactic
import Derived.BigQuiet
import Derived.Deep.QuietTactic
import Derived.Deep.LoopGhost
namespace Go.Proofs.YtdgnfdheofacgaaGreat
open Go.RowKit
namespace II

abbrev K : Int → Value := Value.int .i64
abbrev V : Int → Nat → Value := fun v _ => Value.int .i64 v
abbrev At (F : Nat → Prop) (w : World) (c M : Nat) (f : Value → Option Value) (room : Int) (L : List (Nd Int Int)) : Prop := LruAt K V 1 (.int .i64) F w c M f room L

theorem isk (k : Int) : MapKept.IsKey (.int .i64) (K k) := by simp [MapKept.IsKey]
theorem inj (a b : Int) (h : K a = K b) : a = b := by simpa using h
theorem undM : Tryz.prog.underlying 31 = some (.map 3 32) := by kernel_rfl
theorem undK : Tryz.prog.underlying 3 = some (.int .i64) := by kernel_rfl
theorem undP : Tryz.prog.underlying 32 = some (.pointer 34) := by kernel_rfl
theorem zeroP (w : World) : (zeroValue 32).run Tryz.prog w = .ok (.pointer none) w := by kernel_rfl
theorem sizeN : (Tryz.prog.info? 34).map (·.size) = some 5 := by kernel_rfl

theorem off_walk (b pb po nb no : Nat) (up un : Value) (w : World)
    (c3 : w.cell? ⟨b, 3, none⟩ = some (.pointer (some ⟨pb, po, none⟩))) (c4 : w.cell? ⟨b, 4, none⟩ = some (.pointer (some ⟨nb, no, none⟩)))
    (cp : w.cell? ⟨pb, po + 4, none⟩ = some up) (fp : w.frozen? ⟨pb, po + 4, none⟩ = false)
    (cn : ((w.setCell ⟨pb, po + 4, none⟩ (.pointer (some ⟨nb, no, none⟩))).cell? ⟨nb, no + 3, none⟩) = some un) (fn : w.frozen? ⟨nb, no + 3, none⟩ = false) :
    Calls Tryz.prog 26 #[.pointer (some ⟨b, 0, none⟩)] w fun e w' => e = .returned (.tuple #[]) ∧ Like w' ((w.setCell ⟨pb, po + 4, none⟩ (.pointer (some ⟨nb, no, none⟩))).setCell ⟨nb, no + 3, none⟩ (.pointer (some ⟨pb, po, none⟩))) := by
  go_enter Tryz.func26, Tryz.ntmps26
  go_wp2_with fail
  go_region
  all_goals (go_end0; exact ⟨rfl, rfl, rfl, rfl, rfl⟩)

theorem first_walk (c b nb no : Nat) (u1 u2 u3 u4 : Value) (w : World)
    (cn : w.cell? ⟨c, 5, none⟩ = some (.pointer (some ⟨nb, no, none⟩)))
    (c3 : w.cell? ⟨b, 3, none⟩ = some u1) (c4 : w.cell? ⟨b, 4, none⟩ = some u2) (f3 : w.frozen? ⟨b, 3, none⟩ = false) (f4 : w.frozen? ⟨b, 4, none⟩ = false)
    (g3 : ((w.setCell ⟨b, 3, none⟩ (.pointer (some ⟨c, 1, none⟩))).setCell ⟨b, 4, none⟩ (.pointer (some ⟨nb, no, none⟩))).cell? ⟨c, 5, none⟩ = some u3) (fc : w.frozen? ⟨c, 5, none⟩ = false)
    (g4 : (((w.setCell ⟨b, 3, none⟩ (.pointer (some ⟨c, 1, none⟩))).setCell ⟨b, 4, none⟩ (.pointer (some ⟨nb, no, none⟩))).setCell ⟨c, 5, none⟩ (.pointer (some ⟨b, 0, none⟩))).cell? ⟨nb, no + 3, none⟩ = some u4) (fn : w.frozen? ⟨nb, no + 3, none⟩ = false) :
    Calls Tryz.prog 27 #[.pointer (some ⟨c, 0, none⟩), .pointer (some ⟨b, 0, none⟩)] w fun e w' => e = .returned (.tuple #[]) ∧ Like w' ((((w.setCell ⟨b, 3, none⟩ (.pointer (some ⟨c, 1, none⟩))).setCell ⟨b, 4, none⟩ (.pointer (some ⟨nb, no, none⟩))).setCell ⟨c, 5, none⟩ (.pointer (some ⟨b, 0, none⟩))).setCell ⟨nb, no + 3, none⟩ (.pointer (some ⟨b, 0, none⟩))) := by
  go_enter Tryz.func27, Tryz.ntmps27
  go_wp2_with fail
  go_region
  all_goals (go_wp2_with fail; go_region)
  all_goals (go_end0; exact ⟨rfl, rfl, rfl, rfl, rfl⟩)

theorem find_walk (c M : Nat) (k : Int) (v : Value) (w : World) (cm : w.cell? ⟨c, 0, none⟩ = some (.map (some M)))
    (hl : (Instr.lookup 31 (.map (some M)) (Value.int .i64 k) false).run Tryz.prog w = .ok v w) :
    Calls Tryz.prog 23 #[.pointer (some ⟨c, 0, none⟩), Value.int .i64 k] w fun e w' => e = .returned v ∧ w = w' := by
  go_enter Tryz.func23, Tryz.ntmps23
  go_wp2_with fail
  go_ret
  exact ⟨rfl, rfl⟩

section
variable {F : Nat → Prop} {w : World} {c M : Nat} {f : Value → Option Value} {room : Int} {L A B : List (Nd Int Int)} {x : Nd Int Int}

/-- find, where the key is there -/
theorem find_hit (h : At F w c M f room L) {k : Int} (hf : f (K k) = some (ptr x.pl)) :
    Calls Tryz.prog 23 #[.pointer (some ⟨c, 0, none⟩), Value.int .i64 k] w fun e w' => e = .returned (.pointer (some ⟨x.b, 0, none⟩)) ∧ w = w' := by
  have hl := h.map.lookup (P := Tryz.prog) undM undK zeroP (isk k) false
  rw [hf] at hl
  exact find_walk c M k _ w h.core.base.m hl

/-- find, where it is not -/
theorem find_miss (h : At F w c M f room L) {k : Int} (hf : f (K k) = none) :
    Calls Tryz.prog 23 #[.pointer (some ⟨c, 0, none⟩), Value.int .i64 k] w fun e w' => e = .returned (.pointer none) ∧ w = w' := by
  have hl := h.map.lookup (P := Tryz.prog) undM undK zeroP (isk k) false
  rw [hf] at hl
  exact find_walk c M k _ w h.core.base.m hl

theorem use_any (h : At F w c M f room (A ++ x :: B)) :
    Calls Tryz.prog 24 #[.pointer (some ⟨c, 0, none⟩), .pointer (some ⟨x.b, 0, none⟩)] w fun e w' => e = .returned (.tuple #[]) ∧ At F w' c M f room (x :: (A ++ B)) ∧ Only F w w' := by
  go_enter Tryz.func24, Tryz.ntmps24
  go_wp2_with fail
  obtain ⟨p, n, vp, vn, h1, h2, h3, h4, h5, h6, h7⟩ := h.off
  refine (off_walk x.b p.1 p.2 n.1 n.2 vp vn _ h1 h2 h3 h4 h5 h6).mono ?_
  clear h1 h2 h3 h4 h5 h6
  rintro e w1 ⟨rfl, hl⟩
  obtain ⟨c1, c2, m1, o1⟩ := h7 w1 hl
  clear h7 hl
  go_wp2_with fail
  have hmid := h.mid_nd
  obtain ⟨n, u1, u2, u3, u4, h1, h2, h3, h4, h5, h6, h7, h8, h9, h10⟩ := c1.then_first c2 m1 hmid.1 hmid.2 o1 h.fc (fun y hy => h.fl y ((perm_mid A B x).mem_iff.1 (List.mem_cons_of_mem _ hy))) (h.fl x (by simp))
  refine (first_walk c x.b n.1 n.2 u1 u2 u3 u4 _ h1 h2 h3 h4 h5 h6 h7 h8 h9).mono ?_
  clear h1 h2 h3 h4 h5 h6 h7 h8 h9
  rintro e w2 ⟨rfl, hl⟩
  obtain ⟨c3, m3, o3⟩ := h10 w2 hl
  clear h10 hl
  go_wp2_with fail
  go_end0
  exact ⟨rfl, h.used c3 m3 o3, o3⟩

theorem idle_any (h : At F w c M f room L) :
    Calls Tryz.prog 25 #[.pointer (some ⟨c, 0, none⟩)] w fun e w' => ∃ u, e = .returned (.pointer u) ∧ Idle L u ∧ w = w' := by
  have cl : w.cell? ⟨c, 4, none⟩ = some (ptr (lastP c L)) := (h.core.link (A := L) (B := []) (by simp)).2
  obtain ⟨j, hj, hjs⟩ := info_size sizeN
  have hj0 : j.size ≠ 0 := by omega
  have HS : Hid (j.size ≠ 0) := hj0
  have HI : Hid (Tryz.prog.info? 34 = some j) := hj
  clear hj hjs hj0
  go_enter Tryz.func25, Tryz.ntmps25
  go_wp2_with fail
  go_loopg [3] L.length (fun k v wr => ∃ A B, L = A ++ B ∧ A.length = k ∧ (∀ y ∈ B, y.s.pins ≠ 0) ∧ v = ptr (lastP c A) ∧ wr = w)
  case atStart => exact ⟨L, [], by simp, rfl, by simp, rfl, rfl⟩
  case round =>
    obtain ⟨A, B, hL, hA, hB, hv, rfl⟩ := hrel
    rcases List.eq_nil_or_concat A with hA0 | ⟨A', y, hA0⟩
    · subst hA0
      have hpost : Idle L none := .inl ⟨rfl, by rw [hL]; simpa using hB⟩
      obtain rfl : u3 = .pointer (some ⟨c, 1, none⟩) := hv
      have hself := run_neq_self (P := Tryz.prog) (w := wr) (a := ⟨c, 1, none⟩) undP HI.out
      clear hL hA
      go_wp2_with fail
      go_ret
      exact ⟨_, rfl, hpost, rfl⟩
    · subst hA0
      rw [List.concat_eq_append] at hL hA hv
      rw [lastP_snoc] at hv
      obtain rfl : u3 = .pointer (some ⟨y.b, 0, none⟩) := hv
      have hy : y ∈ L := by rw [hL]; simp
      have hn := h.core.nodes y hy
      have hfar := run_neq_far (P := Tryz.prog) (a := ⟨y.b, 0, none⟩) (b := ⟨c, 1, none⟩) undP HI.out HS.out (h.core.b_ne hy) hn.key h.core.base.m hn.free h.core.base.free
      have c2 : wr.cell? ⟨y.b, 2, none⟩ = some (.int .i64 y.s.pins) := hn.pins
      have hlk : wr.cell? ⟨y.b, 3, none⟩ = some (ptr (lastP c A')) := (h.core.link (A := A') (B := y :: B) (by rw [hL]; simp)).2
      have hlen : A'.length < gk := by rw [← hA]; simp
      have HL : Hid (L = A' ++ y :: B) := by show L = A' ++ y :: B; rw [hL]; simp
      clear hL hA
      by_cases hp : y.s.pins = 0
      · have hpost : Idle L (some ⟨y.b, 0, none⟩) := .inr ⟨A', y, B, HL.out, hp, hB, rfl⟩
        have c2' : wr.cell? ⟨y.b, 2, none⟩ = some (.int .i64 0) := by rw [c2, hp]
        clear c2
        go_wp2_with fail
        go_ret
        exact ⟨_, rfl, hpost, rfl⟩
      · have hb : (y.s.pins == 0) = false := by simp [hp]
        go_wp2_with fail
        go_roundg A'.length
        case measure => exact hlen
        case rel => exact ⟨A', y :: B, HL.out, rfl, fun z hz => (List.mem_cons.1 hz).elim (fun e => e ▸ hp) (hB z), rfl, rfl⟩

end
end II
end Go.Proofs.YtdgnfdheofacgaaGreat
