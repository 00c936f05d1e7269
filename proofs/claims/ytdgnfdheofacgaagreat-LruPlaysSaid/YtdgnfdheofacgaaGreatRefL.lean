/- The reference's cache (commonsref1.Lru): Room, Find, Use. -/
import Derived.Test.YtdgnfdheofacgaaGreatRows
import Derived.Test.YtdgnfdheofacgaaGreatRefM
import Derived.Test.YtdgnfdheofacgaaGreatOwn
import Derived.BigRegion
import Derived.BigQuiet
import Derived.WalkLawsBesides
import Derived.Deep.RegionLaw
import Derived.Deep.DrawnRows
import Derived.Deep.CutBlock
import Derived.Deep.DeepCutAuto
namespace Go.Proofs.YtdgnfdheofacgaaGreat
open Go.RowKit
namespace RL

abbrev f3 : Slot Int Int → Int × Int × Int := fun s => (s.k, s.v, s.pins)
abbrev At (G : Nat → Prop) (w : World) (r : Nat) (v : Value) (S : List (Slot Int Int)) (room : Int) : Prop := Ref3 f3 62 G w r v S room
abbrev Is (G : Nat → Prop) (w : World) (r : Nat) (S : List (Slot Int Int)) (room : Int) : Prop := RefIs f3 62 G w r S room

theorem undW : Tryz.prog.underlying 28 = some (.slice 62) := by kernel_rfl
theorem infW : (Tryz.prog.info? 62).map (fun i => (i.zero, i.size, i.bytes)) = some (some (.agg #[.int .i64 0, .int .i64 0, .int .i64 0]), 3, 24) := by kernel_rfl

/-- the place of a key -/
def idx (S : List (Slot Int Int)) (k : Int) : Int := match S.findIdx? (fun s => s.k == k) with | some i => i | none => -1

theorem room_any (r : Int) (w : World) : Calls Tryz.prog 6 #[.int .i64 r] w fun e w' => e = .returned (.int .i64 (min (max r 0) 100000)) ∧ w = w' := by
  by_cases h1 : r < 0
  · have hc : min (max r 0) 100000 = 0 := by omega
    rw [hc]
    clear hc
    go_enter Tryz.func6, Tryz.ntmps6
    go_wp2_with fail
    go_ret
    exact ⟨rfl, rfl⟩
  · by_cases h2 : r ≤ 100000
    · have hc : min (max r 0) 100000 = r := by omega
      rw [hc]
      clear hc
      go_enter Tryz.func6, Tryz.ntmps6
      go_wp2_with fail
      go_ret
      exact ⟨rfl, rfl⟩
    · have hc : min (max r 0) 100000 = 100000 := by omega
      rw [hc]
      clear hc
      go_enter Tryz.func6, Tryz.ntmps6
      go_wp2_with fail
      go_ret
      exact ⟨rfl, rfl⟩

section
variable {G : Nat → Prop} {w : World} {r : Nat} {S : List (Slot Int Int)} {room : Int}

theorem find_any (h : Is G w r S room) (hn : S.length ≤ 1000000) (id : Int) :
    Calls Tryz.prog 7 #[.pointer (some ⟨r, 0, none⟩), .int .i64 id] w fun e w' => e = .returned (.int .i64 (idx S id)) ∧ w = w' := by
  obtain ⟨v, h⟩ := h
  obtain ⟨a, cap, rfl⟩ := own_shape h.row
  have hcl := h.cl
  have HH := hide h
  obtain ⟨n, hnn⟩ : ∃ n, n = S.length := ⟨_, rfl⟩
  rw [← hnn] at hcl hn
  have HN := hide hnn
  clear h hnn
  go_enter Tryz.func7, Tryz.ntmps7
  go_wp2_with fail
  go_loopw [5] (fun i wr => ∃ j : Nat, j ≤ n ∧ i = .int .i64 j ∧ (∀ i x, i < j → S[i]? = some x → x.k ≠ id) ∧ wr = w) (fun i _ => n - (intOf i).toNat)
  case atStart => exact ⟨0, Nat.zero_le _, rfl, fun i x h => by omega, rfl⟩
  case round =>
    obtain ⟨j, hj, rfl, hno, rfl⟩ := hrel
    have HNO := hide hno
    clear hno
    by_cases hlt : j < n
    · have hjW : j < S.length := by rw [← HN.out]; exact hlt
      obtain ⟨g, cp, e, c0, c1, c2⟩ := HH.out.at_ hjW
      rw [← HN.out] at e
      cases e
      have hjn : (j : Int) < n := by omega
      have HX : Hid (S[j]? = some S[j]) := hide (List.getElem?_eq_getElem hjW)
      generalize S[j] = x at *
      clear c1 c2
      by_cases hid : x.k = id
      · have hb : (x.k == id) = true := by simp [hid]
        have hpost : Hid (idx S id = (j : Int)) := hide (by
          unfold idx
          have : S.findIdx? (fun x => x.k == id) = some j := by
            rw [List.findIdx?_eq_some_iff_getElem]
            have hx : S[j] = x := by have := HX.out; rw [List.getElem?_eq_getElem hjW] at this; exact Option.some.inj this
            refine ⟨hjW, by simp [hx, hid], fun i hi => ?_⟩
            have := HNO.out i S[i] hi (List.getElem?_eq_getElem (by omega))
            simpa using this
          rw [this])
        clear hid
        go_wp2_with fail
        go_ret
        exact ⟨by rw [hpost.out]; rfl, rfl⟩
      · have hb : (x.k == id) = false := by simp [hid]
        have HI := hide hid
        clear hid
        go_wp2_with fail
        go_roundw
        case rel => exact ⟨j + 1, hlt, by go_num, fun i y hi hy => by
          by_cases e : i = j
          · subst e; rw [HX.out] at hy; cases hy; exact HI.out
          · exact HNO.out i y (by omega) hy, trivial⟩
        case measure => simp [intOf]; omega
    · obtain rfl : j = n := by omega
      have hpost : Hid (idx S id = -1) := hide (by
        unfold idx
        have : S.findIdx? (fun x => x.k == id) = none := by
          rw [List.findIdx?_eq_none_iff]
          intro x hx
          obtain ⟨i, hi⟩ := List.mem_iff_getElem?.1 hx
          have := HNO.out i x (by have := (List.getElem?_eq_some_iff.1 hi).1; have := HN.out; omega) hi
          simpa using this
        rw [this])
      go_wp2_with fail
      go_ret
      exact ⟨by rw [hpost.out]; rfl, rfl⟩

/-- The slice is another one, made anew. -/
theorem use_end {w1 w5 w6 : World} {v v5 : Value} {S' : List (Slot Int Int)} (h : At G w r v S room) (b0 : Below w.heap.size w w1) (hb : Below w1.heap.size w1 w5) (hr : w5.ownsRow w1.heap.size 62 3 v5 S'.length (flat3 f3 S')) (hw : Like w6 (w5.setCell ⟨r, 0, none⟩ v5)) :
    ∃ G', Is G' w6 r S' room ∧ Only G w w6 ∧ ∀ b, G' b → G b ∨ w.heap.size ≤ b := by
  have hb5 : Below w.heap.size w w5 := b0.trans (hb.mono b0.size)
  have hat : ∀ b, v5.ownBlock = some b → w.heap.size ≤ b := fun b q => Nat.le_trans b0.size (hr.lt b q).1
  obtain ⟨q1, q2⟩ := h.setL (⟨hb5.os, hb5.tape, hb5.output, hb5.size, fun b hb _ => hb5.block b hb⟩ : Only (fun _ => False) w w5) (row_lower hr (Nat.zero_le _)) hat hw
  exact ⟨_, ⟨_, q1⟩, q2, fun b q => q.elim .inl (fun q => .inr (hat b q))⟩

attribute [local go_sem ↓] Go.wp_at_zero Go.wp_at_succ

set_option maxRecDepth 100000 in
set_option maxHeartbeats 4000000 in
theorem use_any (h : Is G w r S room) (hn : S.length ≤ 1000000) {k : Nat} (hk : k < S.length) :
    Calls Tryz.prog 11 #[.pointer (some ⟨r, 0, none⟩), .int .i64 k] w fun e w' => e = .returned (.tuple #[]) ∧ ∃ G', Is G' w' r (S[k] :: S.eraseIdx k) room ∧ Only G w w' ∧ ∀ b, G' b → G b ∨ w.heap.size ≤ b := by
  obtain ⟨v, h⟩ := h
  obtain ⟨a, cap, rfl⟩ := own_shape h.row
  obtain ⟨g, cp, e, d0, d1, d2⟩ := h.at_ hk
  cases e
  obtain ⟨i, hi, _, hsz, _⟩ := info_parts infW
  obtain ⟨u1, hs1, hu1⟩ := (Has.own h.row).cutTo (P := Tryz.prog) (hi := k) (by omega) undW hi
  obtain ⟨u2, hs2, hu2⟩ := (Has.own h.row).cutFrom (P := Tryz.prog) (lo := k + 1) (by omega) undW hi hsz
  rw [flat3_take] at hu1
  rw [flat3_drop] at hu2
  obtain ⟨m, hm⟩ : ∃ m, m = S.length - (k + 1) := ⟨_, rfl⟩
  rw [← hm] at hu2
  obtain ⟨a1, c1, rfl⟩ := hu1.shape
  obtain ⟨a2, c2, rfl⟩ := hu2.shape
  have hs3 : ∀ w' : World, (Instr.slice 28 (.slice (some ⟨g, 0, none⟩) S.length cap) (some (.int .i64 ((k : Int) + 1))) none none).run Tryz.prog w' = .ok (.slice a2 m c2) w' := hs2
  clear hs2
  have hcl := h.cl
  have hrlt := h.glt r h.gr
  have hadd : IntKind.i64.wrap ((k : Int) + 1) = (k : Int) + 1 := IntWalk.i64_in _ ⟨by omega, by omega⟩
  have hkn : (k : Int) < S.length := by omega
  have HH := hide h
  have hmm : m ≤ 1000000 := by omega
  have hlen : Hid (1 + (k + m) = (S[k] :: S.eraseIdx k).length) := hide (by rw [List.length_cons, List.length_eraseIdx, if_pos hk]; omega)
  have hlist : Hid ([Value.int .i64 S[k].k, .int .i64 S[k].v, .int .i64 S[k].pins] ++ (flat3 f3 (S.take k) ++ flat3 f3 (S.drop (k + 1))) = flat3 f3 (S[k] :: S.eraseIdx k)) := hide (by rw [flat3_cons, List.eraseIdx_eq_take_drop_succ, flat3_append]; rfl)
  have e0 : w.cell? ⟨g, k * 3, none⟩ = some (.int .i64 S[k].k) := d0
  have e1 : w.cell? ⟨g, k * 3 + 1, none⟩ = some (.int .i64 S[k].v) := d1
  have e2 : w.cell? ⟨g, k * 3 + 2, none⟩ = some (.int .i64 S[k].pins) := d2
  clear h hi hsz hm d0 d1 d2
  generalize S[k] = x at *
  go_enter Tryz.func11, Tryz.ntmps11
  go_wp2_with fail
  have b0 : Below w.heap.size w (w.alloc (.cells #[.int .i64 x.k, .int .i64 x.v, .int .i64 x.pins] 62)) := (Below.refl _ _).alloc (Nat.le_refl _) _
  obtain ⟨bo, hbo⟩ : ∃ bo, bo = w.heap.size := ⟨_, rfl⟩
  have p0 : (w.alloc (.cells #[.int .i64 x.k, .int .i64 x.v, .int .i64 x.pins] 62)).cell? ⟨bo, 0, none⟩ = some (.int .i64 x.k) := by rw [hbo, World.cell?_alloc_new]; rfl
  have p1 : (w.alloc (.cells #[.int .i64 x.k, .int .i64 x.v, .int .i64 x.pins] 62)).cell? ⟨bo, 1, none⟩ = some (.int .i64 x.v) := by rw [hbo, World.cell?_alloc_new]; rfl
  have p2 : (w.alloc (.cells #[.int .i64 x.k, .int .i64 x.v, .int .i64 x.pins] 62)).cell? ⟨bo, 2, none⟩ = some (.int .i64 x.pins) := by rw [hbo, World.cell?_alloc_new]; rfl
  have hbl : bo < (w.alloc (.cells #[.int .i64 x.k, .int .i64 x.v, .int .i64 x.pins] 62)).heap.size := by simp; omega
  rw [← hbo]
  generalize hwo : (w.alloc (.cells #[.int .i64 x.k, .int .i64 x.v, .int .i64 x.pins] 62)) = wo at *
  clear hwo hbo
  have hclo := (b0.cell (p := ⟨r, 0, none⟩) hrlt).trans hcl
  have hfro := (b0.frozen (p := ⟨r, 0, none⟩) hrlt).trans (HH.out.free 0)
  have hro : r < wo.heap.size := Nat.lt_of_lt_of_le hrlt b0.size
  have hu1o := hu1.below b0
  have hu2o := hu2.below b0
  have HB0 := hide b0
  clear hcl e0 e1 e2 hu1 hu2 b0
  go_region_law
    (first
      | (refine step_append_has (by rfl) _ (.tmp 20) _ (by rfl) undW infW rfl (by decide) (by rfl) (by rfl) (World.ownsRow_nil _ wo.heap.size _ _) hu1o.drew (flat3_one _) (by omega) (by omega) (Nat.le_refl _) ?_; intro v3 w3 hr3 o3 hat3; rw [Nat.zero_add, List.nil_append] at hr3; obtain ⟨a3, c3, rfl⟩ := own_shape hr3; have hb3 := new_below ((Only.drew (fun _ => False) wo).below (Nat.le_refl _) (fun _ q => q.elim)) o3 (fun b q => (hat3 b q).elim (fun q => by cases q) (fun q => q)); have hc3 := (hb3.cell (p := ⟨r, 0, none⟩) hro).trans hclo; have q03 := (hb3.cell (p := ⟨bo, 0, none⟩) hbl).trans p0; have q13 := (hb3.cell (p := ⟨bo, 1, none⟩) hbl).trans p1; have q23 := (hb3.cell (p := ⟨bo, 2, none⟩) hbl).trans p2; have hz3 : wo.heap.size ≤ w3.heap.size := hb3.size; have hr3lt : r < w3.heap.size := Nat.lt_of_lt_of_le hro hz3; have hbl3 : bo < w3.heap.size := Nat.lt_of_lt_of_le hbl hz3; have hf3 := (hb3.frozen (p := ⟨r, 0, none⟩) hro).trans hfro)
      | (refine step_append_has (by rfl) _ (.tmp 20) _ (by rfl) undW infW rfl (by decide) (by rfl) (by rfl) (World.ownsRow_nil _ wo.heap.size _ _) (hu1o.drew.alloc _) (flat3_one _) (by omega) (by omega) (by simp) ?_; intro v3 w3 hr3 o3 hat3; rw [Nat.zero_add, List.nil_append] at hr3; obtain ⟨a3, c3, rfl⟩ := own_shape hr3; have hb3 := new_below (((Only.drew (fun _ => False) wo).trans (Only.alloc _ _ _)).below (Nat.le_refl _) (fun _ q => q.elim)) o3 (fun b q => (hat3 b q).elim (fun q => by cases q) (fun q => by simp at q; omega)); have hn3 : ∀ b, b = wo.heap.size → (Value.slice a3 k c3).ownBlock ≠ some b := (fun b e s => (hat3 b s).elim (fun s => by cases s) (fun s => by simp at s; omega)); have g3 := ownsRow_only (own_new wo.drew #[.int .i64 x.k, .int .i64 x.v, .int .i64 x.pins] 62) o3 (fun b q s => (hat3 b s).elim (fun s => by cases s) (fun s => by simp [Value.ownBlock] at q s; omega)); have hc3 := (hb3.cell (p := ⟨r, 0, none⟩) hro).trans hclo; have q03 := (hb3.cell (p := ⟨bo, 0, none⟩) hbl).trans p0; have q13 := (hb3.cell (p := ⟨bo, 1, none⟩) hbl).trans p1; have q23 := (hb3.cell (p := ⟨bo, 2, none⟩) hbl).trans p2; have hz3 : wo.heap.size ≤ w3.heap.size := hb3.size; have hr3lt : r < w3.heap.size := Nat.lt_of_lt_of_le hro hz3; have hbl3 : bo < w3.heap.size := Nat.lt_of_lt_of_le hbl hz3; have hf3 := (hb3.frozen (p := ⟨r, 0, none⟩) hro).trans hfro)
      | (refine step_append_has (by rfl) _ (.tmp 28) _ (by rfl) undW infW rfl (by decide) (by rfl) (by rfl) hr3 (hu2o.below hb3) (flat3_one _) (by omega) (by omega) hz3 ?_; intro v4 w4 hr4 o4 hat4; obtain ⟨a4, c4, rfl⟩ := own_shape hr4; have hb4 := new_below hb3 o4 (fun b q => (hat4 b q).elim (fun q => (hr3.lt b q).1) (fun q => by omega)); have hc4 := (hb4.cell (p := ⟨r, 0, none⟩) hro).trans hclo; have q04 := (hb4.cell (p := ⟨bo, 0, none⟩) hbl).trans p0; have q14 := (hb4.cell (p := ⟨bo, 1, none⟩) hbl).trans p1; have q24 := (hb4.cell (p := ⟨bo, 2, none⟩) hbl).trans p2; have hz4 : wo.heap.size ≤ w4.heap.size := hb4.size; have hr4lt : r < w4.heap.size := Nat.lt_of_lt_of_le hro hz4; have hbl4 : bo < w4.heap.size := Nat.lt_of_lt_of_le hbl hz4; have hf4 := (hb4.frozen (p := ⟨r, 0, none⟩) hro).trans hfro; try (have g4 := ownsRow_only g3 o4 (fun b q s => (hat4 b s).elim (fun s => by simp [Value.ownBlock] at q; exact hn3 b q.symm s) (fun s => by have := (g3.lt b q).2; omega))))
      | (refine step_append_has (by rfl) _ (.tmp 28) _ (by rfl) undW infW rfl (by decide) (by rfl) (by rfl) (hr3.alloc _) ((hu2o.below hb3).alloc _) (flat3_one _) (by omega) (by omega) (by simp; omega) ?_; intro v4 w4 hr4 o4 hat4; obtain ⟨a4, c4, rfl⟩ := own_shape hr4; have hb4 := new_below (hb3.trans ((Only.alloc (fun _ => False) w3 _).below hz3 (fun _ q => q.elim))) o4 (fun b q => (hat4 b q).elim (fun q => (hr3.lt b q).1) (fun q => by simp at q; omega)); have hc4 := (hb4.cell (p := ⟨r, 0, none⟩) hro).trans hclo; have q04 := (hb4.cell (p := ⟨bo, 0, none⟩) hbl).trans p0; have q14 := (hb4.cell (p := ⟨bo, 1, none⟩) hbl).trans p1; have q24 := (hb4.cell (p := ⟨bo, 2, none⟩) hbl).trans p2; have hz4 : wo.heap.size ≤ w4.heap.size := hb4.size; have hr4lt : r < w4.heap.size := Nat.lt_of_lt_of_le hro hz4; have hbl4 : bo < w4.heap.size := Nat.lt_of_lt_of_le hbl hz4; have hf4 := (hb4.frozen (p := ⟨r, 0, none⟩) hro).trans hfro; have g4 := row_lower (ownsRow_only (own_new w3 #[.int .i64 x.k, .int .i64 x.v, .int .i64 x.pins] 62) o4 (fun b q s => (hat4 b s).elim (fun s => by have := (hr3.lt b s).2; simp [Value.ownBlock] at q; omega) (fun s => by simp [Value.ownBlock] at q s; omega))) hz3)
      | (refine step_append_has (by rfl) _ (.tmp 29) _ (by rfl) undW infW rfl (by decide) (by rfl) (by rfl) g4 (Has.own hr4) (by rw [← flat3_append]; exact flat3_one _) (by omega) (by omega) hz4 ?_; intro v5 w5 hr5 o5 hat5; obtain ⟨a5, c5, rfl⟩ := own_shape hr5; have hb5 := new_below hb4 o5 (fun b q => (hat5 b q).elim (fun q => (g4.lt b q).1) (fun q => by omega)); have hc5 := (hb5.cell (p := ⟨r, 0, none⟩) hro).trans hclo; have hf5 := (hb5.frozen (p := ⟨r, 0, none⟩) hro).trans hfro)
      | (refine step_append_has (by rfl) _ (.tmp 29) _ (by rfl) undW infW rfl (by decide) (by rfl) (by rfl) (row_lower (own_new w4 #[.int .i64 x.k, .int .i64 x.v, .int .i64 x.pins] 62) hz4) (Has.own (hr4.alloc _)) (by rw [← flat3_append]; exact flat3_one _) (by omega) (by omega) (by simp; omega) ?_; intro v5 w5 hr5 o5 hat5; obtain ⟨a5, c5, rfl⟩ := own_shape hr5; have hb5 := new_below (hb4.trans ((Only.alloc (fun _ => False) w4 _).below hz4 (fun _ q => q.elim))) o5 (fun b q => (hat5 b q).elim (fun q => by simp [Value.ownBlock] at q; omega) (fun q => by simp at q; omega)); have hc5 := (hb5.cell (p := ⟨r, 0, none⟩) hro).trans hclo; have hf5 := (hb5.frozen (p := ⟨r, 0, none⟩) hro).trans hfro))
  all_goals
    go_end0
    exact ⟨rfl, use_end HH.out HB0.out hb5 (by rw [← hlen.out, ← hlist.out]; exact hr5) ⟨rfl, rfl, rfl, rfl⟩⟩
end
end RL
end Go.Proofs.YtdgnfdheofacgaaGreat
