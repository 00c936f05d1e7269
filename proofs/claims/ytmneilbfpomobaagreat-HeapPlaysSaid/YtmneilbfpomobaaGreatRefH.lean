/- The reference's heap (commonsref1.Heap): Find, Out, Put. -/
import Derived.Test.YtmneilbfpomobaaGreatRows
import Derived.Test.YtmneilbfpomobaaGreatRefM
import Derived.Test.YtmneilbfpomobaaGreatHeapQ
import Derived.BigRegion
import Derived.BigQuiet
import Derived.Deep.RegionLaw
import Derived.Deep.DrawnRows
import Derived.Deep.CutBlock
import Derived.Deep.DeepCutAuto
namespace Go.Proofs.YtmneilbfpomobaaGreat
open Go.RowKit
namespace RH

abbrev f3 : Wt Int → Int × Int × Int := fun x => (x.at_, x.id, x.v)
abbrev At (G : Nat → Prop) (w : World) (r : Nat) (v : Value) (W : List (Wt Int)) (last : Int) : Prop := Ref3 f3 58 G w r v W last
abbrev Is (G : Nat → Prop) (w : World) (r : Nat) (W : List (Wt Int)) (last : Int) : Prop := RefIs f3 58 G w r W last

theorem undW : Tryz.prog.underlying 27 = some (.slice 58) := by kernel_rfl
theorem infW : (Tryz.prog.info? 58).map (fun i => (i.zero, i.size, i.bytes)) = some (some (.agg #[.int .i64 0, .int .i64 0, .int .i64 0]), 3, 24) := by kernel_rfl

/-- the place of an id -/
def idx (W : List (Wt Int)) (id : Int) : Int := match W.findIdx? (fun x => x.id == id) with | some k => k | none => -1

section
variable {G : Nat → Prop} {w : World} {r : Nat} {W : List (Wt Int)} {last : Int}

theorem find_any (h : Is G w r W last) (hn : W.length ≤ 1000000) (id : Int) :
    Calls Tryz.prog 10 #[.pointer (some ⟨r, 0, none⟩), .int .i64 id] w fun e w' => e = .returned (.int .i64 (idx W id)) ∧ w = w' := by
  obtain ⟨v, h⟩ := h
  obtain ⟨a, cap, rfl⟩ := own_shape h.row
  have hcl := h.cl
  have HH := hide h
  obtain ⟨n, hnn⟩ : ∃ n, n = W.length := ⟨_, rfl⟩
  rw [← hnn] at hcl hn
  have HN := hide hnn
  clear h hnn
  go_enter Tryz.func10, Tryz.ntmps10
  go_wp2_with fail
  go_loopw [5] (fun i wr => ∃ j : Nat, j ≤ n ∧ i = .int .i64 j ∧ (∀ i x, i < j → W[i]? = some x → x.id ≠ id) ∧ wr = w) (fun i _ => n - (intOf i).toNat)
  case atStart => exact ⟨0, Nat.zero_le _, rfl, fun i x h => by omega, rfl⟩
  case round =>
    obtain ⟨j, hj, rfl, hno, rfl⟩ := hrel
    have HNO := hide hno
    clear hno
    by_cases hlt : j < n
    · have hjW : j < W.length := by rw [← HN.out]; exact hlt
      obtain ⟨g, cp, e, c0, c1, c2⟩ := HH.out.at_ hjW
      rw [← HN.out] at e
      cases e
      have hjn : (j : Int) < n := by omega
      have HX : Hid (W[j]? = some W[j]) := hide (List.getElem?_eq_getElem hjW)
      generalize W[j] = x at *
      clear c0 c2
      by_cases hid : x.id = id
      · have hb : (x.id == id) = true := by simp [hid]
        have hpost : Hid (idx W id = (j : Int)) := hide (by
          unfold idx
          have : W.findIdx? (fun x => x.id == id) = some j := by
            rw [List.findIdx?_eq_some_iff_getElem]
            have hx : W[j] = x := by have := HX.out; rw [List.getElem?_eq_getElem hjW] at this; exact Option.some.inj this
            refine ⟨hjW, by simp [hx, hid], fun i hi => ?_⟩
            have := HNO.out i W[i] hi (List.getElem?_eq_getElem (by omega))
            simpa using this
          rw [this])
        clear hid
        go_wp2_with fail
        go_ret
        exact ⟨by rw [hpost.out]; rfl, rfl⟩
      · have hb : (x.id == id) = false := by simp [hid]
        have HI := hide hid
        clear hid
        go_wp2_with fail
        go_roundw
        case rel => exact ⟨j + 1, hlt, by go_num, fun i y hi hy => by
          by_cases e : i = j
          · subst e; rw [HX.out] at hy; cases hy; exact HI.out
          · exact HNO.out i y (by omega) hy, trivial⟩
        case measure => simp [intOf]; omega
    · obtain rfl : j = n := by omega
      have hpost : Hid (idx W id = -1) := hide (by
        unfold idx
        have : W.findIdx? (fun x => x.id == id) = none := by
          rw [List.findIdx?_eq_none_iff]
          intro x hx
          obtain ⟨i, hi⟩ := List.mem_iff_getElem?.1 hx
          have := HNO.out i x (by have := (List.getElem?_eq_some_iff.1 hi).1; have := HN.out; omega) hi
          simpa using this
        rw [this])
      go_wp2_with fail
      go_ret
      exact ⟨by rw [hpost.out]; rfl, rfl⟩

attribute [local go_sem ↓] Go.wp_at_zero Go.wp_at_succ

set_option maxRecDepth 100000 in
set_option maxHeartbeats 2000000 in
theorem out_any (h : Is G w r W last) (hn : W.length ≤ 1000000) {k : Nat} (hk : k < W.length) :
    Calls Tryz.prog 9 #[.pointer (some ⟨r, 0, none⟩), .int .i64 k] w fun e w' => e = .returned (.tuple #[]) ∧ ∃ G', Is G' w' r (W.eraseIdx k) last ∧ Only G w w' ∧ ∀ b, G' b → G b ∨ w.heap.size ≤ b := by
  obtain ⟨v, h⟩ := h
  obtain ⟨a, cap, rfl⟩ := own_shape h.row
  obtain ⟨i, hi, _, hsz, _⟩ := info_parts infW
  obtain ⟨u1, hs1, hu1⟩ := (Has.own h.row).cutTo (P := Tryz.prog) (hi := k) (by omega) undW hi
  obtain ⟨u2, hs2, hu2⟩ := (Has.own h.row).cutFrom (P := Tryz.prog) (lo := k + 1) (by omega) undW hi hsz
  rw [flat3_take] at hu1
  rw [flat3_drop] at hu2
  obtain ⟨a1, c1, rfl⟩ := hu1.shape
  obtain ⟨a2, c2, rfl⟩ := hu2.shape
  have hs3 : ∀ w' : World, (Instr.slice 27 (.slice a W.length cap) (some (.int .i64 ((k : Int) + 1))) none none).run Tryz.prog w' = .ok (.slice a2 (W.length - (k + 1)) c2) w' := hs2
  clear hs2
  have hcl := h.cl
  have hrlt := h.glt r h.gr
  have hadd : IntKind.i64.wrap ((k : Int) + 1) = (k : Int) + 1 := IntWalk.i64_in _ ⟨by omega, by omega⟩
  have HH := hide h
  have hlen : Hid (k + (W.length - (k + 1)) = (W.eraseIdx k).length) := hide (by rw [List.length_eraseIdx, if_pos hk]; omega)
  have hlist : Hid (flat3 f3 (W.take k) ++ flat3 f3 (W.drop (k + 1)) = flat3 f3 (W.eraseIdx k)) := hide (by rw [List.eraseIdx_eq_take_drop_succ, flat3_append])
  clear h hi hsz
  obtain ⟨wo, hwo⟩ : ∃ wo : World, wo = w := ⟨_, rfl⟩
  subst hwo
  go_enter Tryz.func9, Tryz.ntmps9
  go_region_law
    (first
      | (refine step_append_has (by rfl) _ (.tmp 10) _ (by rfl) undW infW rfl (by decide) (by rfl) (by rfl) (World.ownsRow_nil _ wo.heap.size _ _) hu1.drew (flat3_one _) (by omega) (by omega) (Nat.le_refl _) ?_; intro v3 w3 hr3 o3 hat3; rw [Nat.zero_add, List.nil_append] at hr3; obtain ⟨a3, c3, rfl⟩ := own_shape hr3; have hat3' : ∀ b, (Value.slice a3 k c3).ownBlock = some b → wo.heap.size ≤ b := (fun b q => (hat3 b q).elim (fun q => by cases q) (fun q => q)); have hc3 := (o3.cell (p := ⟨r, 0, none⟩) hrlt (fun q => absurd hrlt (Nat.not_lt.2 (hat3' r q)))).trans hcl; have hz3 : wo.heap.size ≤ w3.heap.size := o3.size)
      | (refine step_append_has (by rfl) _ (.tmp 18) _ (by rfl) undW infW rfl (by decide) (by rfl) (by rfl) hr3 (hu2.drew.young o3 hat3') (flat3_one _) (by omega) (by omega) hz3 ?_; intro v4 w4 hr4 o4 hat4; obtain ⟨a4, c4, rfl⟩ := own_shape hr4; have hat4' : ∀ b, (Value.slice a4 (k + (W.length - (k + 1))) c4).ownBlock = some b → wo.heap.size ≤ b := (fun b q => (hat4 b q).elim (hat3' b) (fun q => Nat.le_trans hz3 q)); have hc4 := (o4.cell (p := ⟨r, 0, none⟩) (Nat.lt_of_lt_of_le hrlt hz3) (fun q => absurd hrlt (Nat.not_lt.2 (hat4' r q)))).trans hc3; have hf4 := (o4.frozen (p := ⟨r, 0, none⟩) (Nat.lt_of_lt_of_le hrlt hz3) (fun q => absurd hrlt (Nat.not_lt.2 (hat4' r q)))).trans ((o3.frozen (p := ⟨r, 0, none⟩) hrlt (fun q => absurd hrlt (Nat.not_lt.2 (hat3' r q)))).trans (HH.out.free 0))))
  all_goals
    go_end0
    rw [hlist.out, hlen.out] at hr4
    have o34 : Only (fun _ => False) wo w4 := ((Only.drew (fun _ => False) wo).then o3 (fun b q => .inr (hat3' b q))).then o4 (fun b q => .inr (hat4' b q))
    rw [hlen.out] at hat4'
    rw [hlen.out]
    obtain ⟨q1, q2⟩ := HH.out.setL o34 (row_lower hr4 (Nat.zero_le _)) hat4' ⟨rfl, rfl, rfl, rfl⟩
    exact ⟨rfl, _, ⟨_, q1⟩, q2, fun b q => q.elim .inl (fun q => .inr (hat4' b q))⟩

theorem insW_split (x : Wt Int) : ∀ (W : List (Wt Int)) (k : Nat), k ≤ W.length → (∀ i y, i < k → W[i]? = some y → y.at_ ≤ x.at_) → (∀ y, W[k]? = some y → x.at_ < y.at_) → insW x W = W.take k ++ x :: W.drop k
  | [], k, hk, _, _ => by
    have : k = 0 := by simpa using hk
    subst this; rfl
  | y :: W, 0, _, _, h2 => by
    have h := h2 y rfl
    show (if y.at_ ≤ x.at_ then y :: insW x W else x :: y :: W) = _
    rw [if_neg (by omega)]; rfl
  | y :: W, k + 1, hk, h1, h2 => by
    have h := h1 0 y (by omega) rfl
    show (if y.at_ ≤ x.at_ then y :: insW x W else x :: y :: W) = _
    rw [if_pos h, insW_split x W k (by simpa using hk) (fun i z hi hz => h1 (i + 1) z (by omega) (by simpa using hz)) (fun z hz => h2 z (by simpa using hz))]
    rfl

set_option maxRecDepth 100000 in
set_option maxHeartbeats 4000000 in
theorem put_any (h : Is G w r W last) (hn : W.length ≤ 1000000) (hl0 : 0 ≤ last) (hl1 : last ≤ 1000000) (t v : Int) :
    Calls Tryz.prog 7 #[.pointer (some ⟨r, 0, none⟩), .int .i64 t, .int .i64 v] w fun e w' => e = .returned (.int .i64 (last + 1)) ∧ ∃ G', Is G' w' r (insW ⟨t, last + 1, v⟩ W) (last + 1) ∧ Only G w w' ∧ ∀ b, G' b → G b ∨ w.heap.size ≤ b := by
  obtain ⟨va, h⟩ := h
  obtain ⟨a, cap, rfl⟩ := own_shape h.row
  have hadd : IntKind.i64.wrap (last + 1) = last + 1 := IntWalk.i64_in _ ⟨by omega, by omega⟩
  have hcx := h.cx
  have hfx := h.free 1
  obtain ⟨h1, o1⟩ := h.setX (last + 1)
  clear h
  go_enter Tryz.func7, Tryz.ntmps7
  go_upto_block 0 with fail
  clear hcx hfx
  generalize w.setCell ⟨r, 1, none⟩ (.int .i64 (last + 1)) = w1 at *
  have HH := hide h1
  have hcl := h1.cl
  have hcx := h1.cx
  have hrlt := h1.glt r h1.gr
  obtain ⟨n, hnn⟩ : ∃ n, n = W.length := ⟨_, rfl⟩
  rw [← hnn] at hcl hn
  have HN := hide hnn
  clear h1 hnn
  go_cut [7] from 15 to 35 (fun i wx => ∃ j : Nat, j ≤ n ∧ i = .int .i64 j ∧ insW ⟨t, last + 1, v⟩ W = W.take j ++ ⟨t, last + 1, v⟩ :: W.drop j ∧ wx = w1)
  case first =>
    go_wp2_with fail
    go_loopw [7] (fun i wr => ∃ j : Nat, j ≤ n ∧ i = .int .i64 j ∧ (∀ i y, i < j → W[i]? = some y → y.at_ ≤ t) ∧ wr = w1) (fun i _ => n - (intOf i).toNat)
    case atStart => exact ⟨0, Nat.zero_le _, rfl, fun i x h => by omega, rfl⟩
    case round =>
      obtain ⟨j, hj, rfl, hno, rfl⟩ := hrel
      have HNO := hide hno
      clear hno
      by_cases hgo : ∃ y, W[j]? = some y ∧ y.at_ ≤ t
      · obtain ⟨y, hy, hyt⟩ := hgo
        have hjW := (List.getElem?_eq_some_iff.1 hy).1
        have hlt : j < n := by rw [HN.out]; exact hjW
        obtain ⟨g, cp, e, c0, c1, c2⟩ := HH.out.at_ hjW
        rw [← HN.out] at e
        cases e
        rw [(List.getElem?_eq_some_iff.1 hy).2] at c0
        have hjn : (j : Int) < n := by omega
        have HY := hide hy
        have HT := hide hyt
        clear c1 c2 hy
        go_wp2_with fail
        go_roundw
        case rel => exact ⟨j + 1, hlt, by go_num, fun i z hi hz => by
            by_cases e : i = j
            · subst e; rw [HY.out] at hz; cases hz; exact HT.out
            · exact HNO.out i z (by omega) hz, trivial⟩
        case measure => simp [intOf]; omega
      · have HST : Hid (∀ y, W[j]? = some y → t < y.at_) := hide (fun y hy => by
          rcases Int.lt_or_le t y.at_ with q | q
          · exact q
          · exact absurd ⟨y, hy, q⟩ hgo)
        clear hgo
        have hjw : j ≤ W.length := by have := HN.out; omega
        have HIN : Hid (insW ⟨t, last + 1, v⟩ W = W.take j ++ ⟨t, last + 1, v⟩ :: W.drop j) := hide (insW_split _ W j hjw HNO.out HST.out)
        by_cases hlt : j < n
        · have hjW : j < W.length := by rw [← HN.out]; exact hlt
          obtain ⟨g, cp, e, c0, _, _⟩ := HH.out.at_ hjW
          rw [← HN.out] at e
          cases e
          have hjn : (j : Int) < n := by omega
          have hgt := HST.out W[j] (List.getElem?_eq_getElem hjW)
          have c0' : wr.cell? ⟨g, j * 3, none⟩ = some (.int .i64 W[j].at_) := c0
          clear c0
          generalize W[j].at_ = ya at c0' hgt
          have hd : decide (ya ≤ t) = false := by simp; omega
          go_wp2_with fail
          go_meet
          exact ⟨j, hj, rfl, HIN.out, rfl⟩
        · obtain rfl : j = n := by omega
          go_wp2_with fail
          go_meet
          exact ⟨j, Nat.le_refl _, rfl, HIN.out, rfl⟩
  case rest =>
    obtain ⟨j, hj, rfl, hin, rfl⟩ := hcut
    have HIN := hide hin
    clear hin
    have hjw : j ≤ W.length := by have := HN.out; omega
    obtain ⟨i, hi, _, hsz, _⟩ := info_parts infW
    obtain ⟨u1, hs1, hu1⟩ := (Has.own HH.out.row).cutTo (P := Tryz.prog) (hi := j) hjw undW hi
    obtain ⟨u2, hs2, hu2⟩ := (Has.own HH.out.row).cutFrom (P := Tryz.prog) (lo := j) hjw undW hi hsz
    rw [flat3_take] at hu1
    rw [flat3_drop] at hu2
    obtain ⟨m, hm⟩ : ∃ m, m = W.length - j := ⟨_, rfl⟩
    rw [← hm] at hu2
    obtain ⟨a1, c1, rfl⟩ := hu1.shape
    obtain ⟨a2, c2, rfl⟩ := hu2.shape
    rw [← HN.out] at hs1 hs2
    have hfr := HH.out.free 0
    have HG := hide (show Only G w wc from o1)
    have HM := hide hm
    have hbig : m ≤ 1000000 := by have := HN.out; omega
    clear hi hsz hjw o1 hm
    obtain ⟨wo, hwo⟩ : ∃ wo : World, wo = wc := ⟨_, rfl⟩
    subst hwo
    go_upto_region 5 with fail
    have HLIST : Hid ((flat3 f3 (W.take j) ++ [Value.int .i64 t, .int .i64 (last + 1), .int .i64 v]) ++ flat3 f3 (W.drop j) = flat3 f3 (W.take j ++ ⟨t, last + 1, v⟩ :: W.drop j)) := hide (by rw [flat3_append, flat3_cons, List.append_assoc]; rfl)
    go_cut [] (fun wx => ∃ v5 w5, Below wo.heap.size wo w5 ∧ w5.ownsRow wo.heap.size 58 3 v5 (j + 1 + m) (flat3 f3 (W.take j ++ ⟨t, last + 1, v⟩ :: W.drop j)) ∧ Like wx (w5.setCell ⟨r, 0, none⟩ v5))
    case first =>
        go_region_law
          (first
            | (refine step_append_has (by rfl) _ (.tmp 42) _ (by rfl) undW infW rfl (by decide) (by rfl) (by rfl) (World.ownsRow_nil _ wo.heap.size _ _) hu1.drew (flat3_one _) (by omega) (by omega) (Nat.le_refl _) ?_; intro v3 w3 hr3 o3 hat3; rw [Nat.zero_add, List.nil_append] at hr3; obtain ⟨a3, c3, rfl⟩ := own_shape hr3; have hb3 := new_below ((Only.drew (fun _ => False) wo).below (Nat.le_refl _) (fun _ q => q.elim)) o3 (fun b q => (hat3 b q).elim (fun q => by cases q) (fun q => q)); have hc3 := (hb3.cell (p := ⟨r, 0, none⟩) hrlt).trans hcl; have hx3 := (hb3.cell (p := ⟨r, 1, none⟩) hrlt).trans hcx; have hz3 : wo.heap.size ≤ w3.heap.size := hb3.size; have hr3lt : r < w3.heap.size := Nat.lt_of_lt_of_le hrlt hz3; have hf3 := (hb3.frozen (p := ⟨r, 0, none⟩) hrlt).trans hfr)
            | (refine step_append_has (by rfl) _ (.tmp 42) _ (by rfl) undW infW rfl (by decide) (by rfl) (by rfl) (World.ownsRow_nil _ wo.heap.size _ _) (hu1.drew.alloc _) (flat3_one _) (by omega) (by omega) (by simp) ?_; intro v3 w3 hr3 o3 hat3; rw [Nat.zero_add, List.nil_append] at hr3; obtain ⟨a3, c3, rfl⟩ := own_shape hr3; have hb3 := new_below (((Only.drew (fun _ => False) wo).trans (Only.alloc _ _ _)).below (Nat.le_refl _) (fun _ q => q.elim)) o3 (fun b q => (hat3 b q).elim (fun q => by cases q) (fun q => by simp at q; omega)); have h51 := (Has.new wo.drew #[.int .i64 t, .int .i64 (last + 1), .int .i64 v] 58 1 (Nat.le_refl _) (by unfold maxLen; omega)).young o3 (fun b q => (hat3 b q).elim (fun q => by cases q) (fun q => q)); have hc3 := (hb3.cell (p := ⟨r, 0, none⟩) hrlt).trans hcl; have hx3 := (hb3.cell (p := ⟨r, 1, none⟩) hrlt).trans hcx; have hz3 : wo.heap.size ≤ w3.heap.size := hb3.size; have hr3lt : r < w3.heap.size := Nat.lt_of_lt_of_le hrlt hz3; have hf3 := (hb3.frozen (p := ⟨r, 0, none⟩) hrlt).trans hfr)
            | (refine step_append_has (by rfl) _ (.tmp 51) _ (by rfl) undW infW rfl (by decide) (by rfl) (by rfl) (hr3.alloc _) (Has.new w3 #[.int .i64 t, .int .i64 (last + 1), .int .i64 v] _ 1 (Nat.le_refl _) (by unfold maxLen; omega)) (by intro c hc; simp at hc; rcases hc with rfl | rfl | rfl <;> rfl) (by omega) (by omega) (by simp; omega) ?_; intro v4 w4 hr4 o4 hat4; obtain ⟨a4, c4, rfl⟩ := own_shape hr4; have hb4 := new_below (hb3.trans ((Only.alloc (fun _ => False) w3 _).below hz3 (fun _ q => q.elim))) o4 (fun b q => (hat4 b q).elim (fun q => (hr3.lt b q).1) (fun q => by simp at q; omega)); have hc4 := (hb4.cell (p := ⟨r, 0, none⟩) hrlt).trans hcl; have hx4 := (hb4.cell (p := ⟨r, 1, none⟩) hrlt).trans hcx; have hz4 : wo.heap.size ≤ w4.heap.size := hb4.size; have hr4lt : r < w4.heap.size := Nat.lt_of_lt_of_le hrlt hz4; have hf4 := (hb4.frozen (p := ⟨r, 0, none⟩) hrlt).trans hfr)
            | (refine step_append_has (by rfl) _ (.tmp 51) _ (by rfl) undW infW rfl (by decide) (by rfl) (by rfl) hr3 h51 (by intro c hc; simp at hc; rcases hc with rfl | rfl | rfl <;> rfl) (by omega) (by omega) hz3 ?_; intro v4 w4 hr4 o4 hat4; obtain ⟨a4, c4, rfl⟩ := own_shape hr4; have hb4 := new_below hb3 o4 (fun b q => (hat4 b q).elim (fun q => (hr3.lt b q).1) (fun q => by omega)); have hc4 := (hb4.cell (p := ⟨r, 0, none⟩) hrlt).trans hcl; have hx4 := (hb4.cell (p := ⟨r, 1, none⟩) hrlt).trans hcx; have hz4 : wo.heap.size ≤ w4.heap.size := hb4.size; have hr4lt : r < w4.heap.size := Nat.lt_of_lt_of_le hrlt hz4; have hf4 := (hb4.frozen (p := ⟨r, 0, none⟩) hrlt).trans hfr)
            | (refine step_append_has (by rfl) _ (.tmp 58) _ (by rfl) undW infW rfl (by decide) (by rfl) (by rfl) hr4 (hu2.below hb4) (flat3_one _) (by omega) (by omega) hz4 ?_; intro v5 w5 hr5 o5 hat5; obtain ⟨a5, c5, rfl⟩ := own_shape hr5; have hb5 := new_below hb4 o5 (fun b q => (hat5 b q).elim (fun q => (hr4.lt b q).1) (fun q => by omega)); have hc5 := (hb5.cell (p := ⟨r, 0, none⟩) hrlt).trans hcl; have hf5 := (hb5.frozen (p := ⟨r, 0, none⟩) hrlt).trans hfr))
        all_goals
          rw [HLIST.out] at hr5
          go_wp2_with fail
          go_meet
          exact ⟨_, w5, hb5, hr5, rfl, rfl, rfl, rfl⟩
    case rest =>
      obtain ⟨v5, w5, hb5, hr5, hlk⟩ := hcut
      have hlen : j + 1 + m = (W.take j ++ ⟨t, last + 1, v⟩ :: W.drop j).length := by
        have := HM.out
        have := HN.out
        simp; omega
      rw [hlen] at hr5
      have hat5 : ∀ b, v5.ownBlock = some b → wo.heap.size ≤ b := fun b q => (hr5.lt b q).1
      obtain ⟨q1, q2⟩ := HH.out.setL (⟨hb5.os, hb5.tape, hb5.output, hb5.size, fun b hb _ => hb5.block b hb⟩ : Only (fun _ => False) wo w5) (row_lower hr5 (Nat.zero_le _)) hat5 hlk
      rw [← HIN.out] at q1
      have hcx5 := q1.cx
      have HQ := hide q1
      have HO := hide (HG.out.trans q2)
      have HS := hide (show ∀ b, G b ∨ v5.ownBlock = some b → G b ∨ w.heap.size ≤ b from fun b q => q.elim .inl (fun q => .inr (Nat.le_trans HG.out.size (hat5 b q))))
      clear hlk hr5 hb5 hlen q1 q2 hat5
      go_wp2_with fail
      go_ret
      exact ⟨rfl, _, ⟨_, HQ.out⟩, HO.out, HS.out⟩
end
end RH
end Go.Proofs.YtmneilbfpomobaaGreat
