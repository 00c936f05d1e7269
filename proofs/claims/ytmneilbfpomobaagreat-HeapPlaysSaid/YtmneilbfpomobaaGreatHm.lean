/- The walks of package heap at int, third part: New, Len, First, Cancel, Take, At, Put. -/
import Derived.Test.YtmneilbfpomobaaGreatHp
import Derived.Test.YtmneilbfpomobaaGreatHeapQ
namespace Go.Proofs.YtmneilbfpomobaaGreat
open Go.RowKit
namespace HI

abbrev Is (F : Nat → Prop) (w : World) (c : Nat) (W : List (Wt Int)) (last : Int) : Prop := HeapIs V 70 F w c W last

theorem undM : Tryz.prog.underlying 31 = some (.map 3 70) := by kernel_rfl
theorem undK : Tryz.prog.underlying 3 = some (.int .i64) := by kernel_rfl
theorem zeroP (w : World) : (zeroValue 70).run Tryz.prog w = .ok (.pointer none) w := by kernel_rfl
theorem infoP : (Tryz.prog.info? 70).map (fun i => (i.zero, i.size, i.bytes)) = some (some (.pointer none), 1, 8) := by kernel_rfl
theorem isk (k : Int) : MapKept.IsKey (.int .i64) (.int .i64 k) := by simp [MapKept.IsKey]

theorem new_any (w : World) : Calls Tryz.prog 5 #[] w fun e w' => ∃ c F, e = .returned (.pointer (some ⟨c, 0, none⟩)) ∧ Is F w' c [] 0 ∧ Only (fun _ => False) w w' ∧ ∀ b, F b → w.heap.size ≤ b := by
  go_enter Tryz.func5, Tryz.ntmps5
  go_wp2_with fail
  go_ret
  obtain ⟨h1, h2⟩ := HeapIs.made (V := V) (E := 70) (0 : Int) w 33
  exact ⟨_, _, rfl, h1, h2, fun b q => by omega⟩

section
variable {F : Nat → Prop} {w : World} {c : Nat} {last : Int} {W : List (Wt Int)}

theorem len_any (h : Is F w c W last) : Calls Tryz.prog 17 #[.pointer (some ⟨c, 0, none⟩)] w fun e w' => e = .returned (.int .i64 W.length) ∧ w = w' := by
  obtain ⟨v, n, a, R, h, _, _, rfl, _⟩ := h
  obtain ⟨av, cap, rfl⟩ := own_shape h.row
  have hl := h.its.len
  have hs := h.sl
  rw [List.length_map, hl]
  clear hl
  go_enter Tryz.func17, Tryz.ntmps17
  go_wp2_with fail
  go_ret
  exact ⟨rfl, rfl⟩

/-- what First answers -/
def firstV (W : List (Wt Int)) : Value := match W with | [] => .tuple #[.int .i64 0, .int .i64 0, .bool false] | x :: _ => .tuple #[.int .i64 x.at_, .int .i64 x.v, .bool true]

theorem first_any (h : Is F w c W last) : Calls Tryz.prog 13 #[.pointer (some ⟨c, 0, none⟩)] w fun e w' => e = .returned (firstV W) ∧ Like w' w := by
  have hI := h
  obtain ⟨v, n, a, R, h, ho, hs, hW, hid⟩ := h
  cases W with
  | nil =>
    go_enter Tryz.func13, Tryz.ntmps13
    go_wp2_with fail
    refine (len_any hI).mono ?_
    rintro e w' ⟨rfl, rfl⟩
    simp only [List.length_nil]
    go_wp2_with fail
    go_ret3
    exact ⟨rfl, Like.refl _⟩
  | cons y r =>
    cases R with
    | nil => cases hW
    | cons x s =>
      obtain ⟨hn, hx⟩ := head_is h.its ho hs
      have hy : y = x.pay := by simp at hW; exact hW.1.symm
      subst hy
      obtain ⟨g, cap, rfl⟩ := h.form hn
      have hsl := h.sl
      have hc := (h.cell hn).1
      have hit := h.items 0 hn
      rw [hx] at hc hit
      have h1 := hit.at_
      have h2 := hit.val
      have hnn : 0 < n := hn
      have hn2 : (0 : Int) < n := by omega
      clear hx hn hW hit
      have hne : (((r.length + 1 : Nat) : Int) == 0) = false := by simp; omega
      go_enter Tryz.func13, Tryz.ntmps13
      go_wp2_with fail
      refine (len_any hI).mono ?_
      rintro e w' ⟨rfl, rfl⟩
      rw [List.length_cons]
      go_wp2_with fail
      go_quiet (fail)
      go_wp2_with fail
      go_ret3
      exact ⟨rfl, ⟨rfl, rfl, rfl, rfl⟩⟩

/-- the look-up of an id, whatever the map -/
theorem look_any {v : Value} {n : Nat} {a : Nat → It Int} {R : List (It Int)} (h : At F w c v n a R last) (id : Int) :
    ∃ mv u, w.cell? ⟨c, 1, none⟩ = some (.map mv) ∧ (∀ wx : World, wx.heap = w.heap → (Instr.lookup 31 (.map mv) (.int .i64 id) false).run Tryz.prog wx = .ok (.pointer u) wx) ∧
      ((u = none ∧ ∀ x ∈ R, x.id ≠ id) ∨ ∃ x ∈ R, x.id = id ∧ u = some ⟨x.b, 0, none⟩) := by
  rcases h.mp with ⟨q, rfl⟩ | ⟨M, f, q, hm, hF, hlook⟩
  · exact ⟨none, none, q, fun wx _ => lookup_nil undM undK zeroP (isk id) false, .inl ⟨rfl, by simp⟩⟩
  · cases hf : f (.int .i64 id) with
    | none =>
      refine ⟨some M, none, q, fun wx hx => ?_, .inl ⟨rfl, fun x hx e => ?_⟩⟩
      · have := (hm.of_block (w' := wx) (by rw [hx])).lookup (P := Tryz.prog) undM undK zeroP (isk id) false
        rw [hf] at this; exact this
      · have := (hlook (.int .i64 id) (ptrB x.b)).2 ⟨x, hx, by rw [e], rfl⟩
        rw [hf] at this; cases this
    | some u =>
      obtain ⟨x, hx, e, rfl⟩ := (hlook _ _).1 hf
      refine ⟨some M, some ⟨x.b, 0, none⟩, q, fun wx hx => ?_, .inr ⟨x, hx, by simpa using e, rfl⟩⟩
      have := (hm.of_block (w' := wx) (by rw [hx])).lookup (P := Tryz.prog) undM undK zeroP (isk id) false
      rw [hf] at this; exact this

theorem at_any (h : Is F w c W last) (id : Int) : Calls Tryz.prog 12 #[.pointer (some ⟨c, 0, none⟩), .int .i64 id] w fun e w' =>
    e = .returned (match findW W id with | some x => .tuple #[.int .i64 x.at_, .bool true] | none => .tuple #[.int .i64 0, .bool false]) ∧ w = w' := by
  obtain ⟨v, n, a, R, h, ho, hs, rfl, hid⟩ := h
  obtain ⟨mv, u, hc, hlk, hu⟩ := look_any h id
  have hlk1 := hlk w rfl
  clear hlk
  rcases hu with ⟨rfl, hno⟩ | ⟨x, hx, hxid, rfl⟩
  · rw [findW_none hno]
    clear hno
    go_enter Tryz.func12, Tryz.ntmps12
    go_wp2_with fail
    go_ret2
    exact ⟨rfl, rfl⟩
  · rw [findW_map h.its.ids hx hxid]
    obtain ⟨k, hk, hak⟩ := h.place hx
    have hit := (h.items k hk).at_
    rw [hak] at hit
    clear hxid hak
    go_enter Tryz.func12, Tryz.ntmps12
    go_wp2_with fail
    go_ret2
    exact ⟨rfl, rfl⟩

theorem cancel_miss {v : Value} {n : Nat} {a : Nat → It Int} {R : List (It Int)} (h : At F w c v n a R last) {id : Int} (hno : ∀ x ∈ R, x.id ≠ id) :
    Calls Tryz.prog 11 #[.pointer (some ⟨c, 0, none⟩), .int .i64 id] w fun e w' => e = .returned (.bool false) ∧ w = w' := by
  obtain ⟨mv, u, hc, hlk, hu⟩ := look_any h id
  have hlk1 := hlk w rfl
  clear hlk
  rcases hu with ⟨rfl, _⟩ | ⟨x, hx, hxid, _⟩
  · clear hno
    go_enter Tryz.func11, Tryz.ntmps11
    go_wp2_with fail
    go_ret
    exact ⟨rfl, rfl⟩
  · exact absurd hxid (hno x hx)

set_option maxRecDepth 100000 in
set_option maxHeartbeats 1000000 in
theorem cancel_hit {v : Value} {m : Nat} {a : Nat → It Int} {R : List (It Int)} (h : At F w c v (m + 1) a R last) (ho : HeapOrd a (m + 1)) (hn : m + 1 ≤ 1000000) {i : Nat} (hi : i < m + 1) :
    Calls Tryz.prog 11 #[.pointer (some ⟨c, 0, none⟩), .int .i64 (a i).id] w fun e w' => e = .returned (.bool true) ∧
      (∃ v' a', At F w' c v' m a' (R.filter fun x => decide (x.id ≠ (a i).id)) last ∧ HeapOrd a' m) ∧ Only F w w' := by
  obtain ⟨g, cap, rfl⟩ := h.form (by omega)
  have hai := h.mem hi
  have hRne : R ≠ [] := fun e => by rw [e] at hai; cases hai
  obtain ⟨M, f, hM, hm, hFM, hlook⟩ := h.map hRne
  have hfi : f (.int .i64 (a i).id) = some (ptrB (a i).b) := (hlook _ _).2 ⟨a i, hai, rfl, rfl⟩
  have hlk : ∀ wx : World, wx.heap = w.heap → (Instr.lookup 31 (.map (some M)) (.int .i64 (a i).id) false).run Tryz.prog wx = .ok (ptrB (a i).b) wx := fun wx hx => by
    have := (hm.of_block (w' := wx) (by rw [hx])).lookup (P := Tryz.prog) undM undK zeroP (isk (a i).id) false
    rw [hfi] at this; exact this
  have hlk1 := hlk w rfl
  have hlk2 : ∀ nq, (Instr.lookup 31 (.map (some M)) (.int .i64 (a i).id) false).run Tryz.prog (w.drewN nq) = .ok (ptrB (a i).b) (w.drewN nq) := fun nq => hlk _ rfl
  have hsl := h.sl
  have hpl := (h.items i hi).place
  have hsub : IntKind.i64.wrap (((m + 1 : Nat) : Int) - 1) = (m : Int) := by
    rw [show ((m + 1 : Nat) : Int) - 1 = (m : Int) by omega]
    exact IntWalk.i64_in _ ⟨by omega, by omega⟩
  have HF := hide hfi
  clear hlk hfi
  go_enter Tryz.func11, Tryz.ntmps11
  go_wp2_with fail
  go_quiet (fail)
  go_wp2_with fail
  refine (swap_any (h.like (w' := w.drewN nq) ⟨rfl, rfl, rfl, rfl⟩) (by unfold maxLen; omega) hi (Nat.lt_succ_self m)).mono ?_
  rintro e w1 ⟨rfl, h1, o1⟩
  have ow1 : Only F w w1 := (Like.only (w' := w.drewN nq) (w := w) ⟨rfl, rfl, rfl, rfl⟩ F).trans o1
  have hsw : swapA a i m m = a i := by
    by_cases e : m = i
    · subst e; simp [swapA]
    · simp [swapA, e]
  clear hlk1 hlk2 hsl hpl hsub hm hM hlook HF
  obtain ⟨M, f, hM, hm, hFM, hlook⟩ := h1.map hRne
  have hcap : m ≤ cap := by
    rcases h1.row.2 with ⟨q, _⟩ | ⟨_, _, _, q, _, _, r, _⟩
    · cases q
    · cases q; omega
  obtain ⟨hgF, hgc, hgR⟩ := h1.own g rfl
  have hsl := h1.sl
  have hgm := (h1.cell (k := m) (by omega)).1
  have hfg := (h1.cell (k := m) (by omega)).2
  have hfc := h1.free 0
  have hm1 : (m : Int) < ((m + 1 : Nat) : Int) := by omega
  have hm0 : (0 : Int) ≤ m := by omega
  have hc1 : (w1.setCell ⟨g, m, none⟩ (.pointer none)).cell? ⟨c, 0, none⟩ = some (.slice (some ⟨g, 0, none⟩) (m + 1) cap) := by rw [cell_set_ne _ (by simp)]; exact hsl
  have hmM : MapIs (.int .i64) ((w1.setCell ⟨g, m, none⟩ (.pointer none)).setCell ⟨c, 0, none⟩ (.slice (some ⟨g, 0, none⟩) m cap)) M f (m + 1) := (hm.setCell hgm _).setCell hc1 _
  obtain ⟨ob, hdel, hm2⟩ := hmM.delete (P := Tryz.prog) undM undK (isk (a i).id)
  obtain ⟨h2, o2⟩ := h1.pop hM hm hlook (ob := ob) (by rw [hsw]; exact hm2)
  rw [hsw] at h2
  have ow2 : Only F w (setMap ((w1.setCell ⟨g, m, none⟩ (.pointer none)).setCell ⟨c, 0, none⟩ (.slice (some ⟨g, 0, none⟩) m cap)) M ob) := ow1.trans o2
  go_wp2_with fail
  · have hlt : i < m := by assumption
    have hole := ho.hole hlt
    clear hsl hgm hfg hfc hc1 hdel hm2 hmM hM hm hlook h1 o1 ow1 hsw o2
    refine (up_any h2 (by unfold maxLen; omega) hlt hole).mono ?_
    rintro e w3 ⟨rfl, a3, h3, ⟨_, hd3⟩, o3⟩
    go_wp2_with fail
    refine (down_any h3 (by omega) hlt hd3).mono ?_
    rintro e w4 ⟨rfl, a4, h4, ho4, o4⟩
    go_wp2_with fail
    go_ret
    exact ⟨rfl, ⟨_, _, h4, ho4⟩, (ow2.trans o3).trans o4⟩
  · have hge : ¬ i < m := by assumption
    obtain rfl : i = m := by omega
    go_ret
    have hsame : swapA a i i = a := by
      funext k
      by_cases e : k = i
      · subst e; simp [swapA]
      · simp [swapA, e]
    rw [hsame] at h2
    exact ⟨rfl, ⟨_, _, h2, ho.less (Nat.le_succ i)⟩, ow2⟩

theorem cancel_any (h : Is F w c W last) (hn : W.length ≤ 1000000) (id : Int) :
    Calls Tryz.prog 11 #[.pointer (some ⟨c, 0, none⟩), .int .i64 id] w fun e w' => e = .returned (.bool (findW W id).isSome) ∧ Is F w' c (outW W id) last ∧ Only F w w' := by
  obtain ⟨v, n, a, R, h, ho, hs, rfl, hid⟩ := h
  by_cases hex : ∃ x ∈ R, x.id = id
  · obtain ⟨x, hx, rfl⟩ := hex
    rw [findW_map h.its.ids hx rfl]
    obtain ⟨k, hk, rfl⟩ := h.place hx
    obtain ⟨m, rfl⟩ : ∃ m, n = m + 1 := ⟨n - 1, by omega⟩
    refine (cancel_hit h ho (by rw [List.length_map, h.its.len] at hn; exact hn) hk).mono ?_
    rintro e w' ⟨rfl, ⟨v', a', h', ho'⟩, o⟩
    exact ⟨rfl, ⟨v', m, a', _, h', ho', hs.filter _, outW_map R _, fun x hx => hid x (List.mem_filter.1 hx).1⟩, o⟩
  · have hno : ∀ x ∈ R, x.id ≠ id := fun x hx e => hex ⟨x, hx, e⟩
    rw [findW_none hno]
    refine (cancel_miss h hno).mono ?_
    rintro e w' ⟨rfl, rfl⟩
    refine ⟨rfl, ⟨v, n, a, R, h, ho, hs, ?_, hid⟩, Only.refl _ _⟩
    rw [← outW_map, List.filter_eq_self.2 (fun x hx => by simp [hno x hx])]

/-- what Take answers, and what it leaves -/
def takeV (W : List (Wt Int)) (now : Int) : Value := match W with | [] => .tuple #[.int .i64 0, .bool false] | x :: _ => if x.at_ ≤ now then .tuple #[.int .i64 x.v, .bool true] else .tuple #[.int .i64 0, .bool false]
def takeW {β : Type} (W : List (Wt β)) (now : Int) : List (Wt β) := match W with | [] => [] | x :: r => if x.at_ ≤ now then r else x :: r

theorem take_any (h : Is F w c W last) (hn : W.length ≤ 1000000) (now : Int) :
    Calls Tryz.prog 8 #[.pointer (some ⟨c, 0, none⟩), .int .i64 now] w fun e w' => e = .returned (takeV W now) ∧ Is F w' c (takeW W now) last ∧ Only F w w' := by
  cases W with
  | nil =>
    go_enter Tryz.func8, Tryz.ntmps8
    go_wp2_with fail
    refine (first_any h).mono ?_
    rintro e w1 ⟨rfl, hl⟩
    have h1 : Is F w1 c [] last := h.kept (hl.only (fun _ => False)) (fun _ _ q => q)
    simp only [firstV]
    go_wp2_with fail
    go_ret2
    exact ⟨rfl, h1, hl.only F⟩
  | cons x r =>
    by_cases hle : x.at_ ≤ now
    · have hnot : ¬ now < x.at_ := by omega
      rw [show takeV (x :: r) now = .tuple #[.int .i64 x.v, .bool true] by simp [takeV, hle], show takeW (x :: r) now = r by simp [takeW, hle]]
      go_enter Tryz.func8, Tryz.ntmps8
      go_wp2_with fail
      refine (first_any h).mono ?_
      rintro e w1 ⟨rfl, hl⟩
      have h1 : Is F w1 c (x :: r) last := h.kept (hl.only (fun _ => False)) (fun _ _ q => q)
      simp only [firstV]
      have h1' := h1
      obtain ⟨v, n, a, R, hA, ho, hs, hW, hid⟩ := h1'
      have hids := hA.its.ids
      obtain ⟨y, s, rfl⟩ : ∃ y s, R = y :: s := by
        cases R with
        | nil => cases hW
        | cons y s => exact ⟨y, s, rfl⟩
      obtain ⟨hn0, hy⟩ := head_is hA.its ho hs
      simp only [List.map_cons, List.cons.injEq] at hW
      obtain ⟨rfl, rfl⟩ := hW
      obtain ⟨g, cap, rfl⟩ := hA.form hn0
      have hsl := hA.sl
      have hc := (hA.cell hn0).1
      have hit := (hA.items 0 hn0).id
      rw [hy] at hc hit
      have hn2 : (0 : Int) < n := by omega
      have hout : outW (y.pay :: s.map It.pay) y.id = s.map It.pay := by
        have : outW (y.pay :: s.map It.pay) y.id = outW (s.map It.pay) y.id := by simp [outW, It.pay]
        rw [this, ← outW_map, List.filter_eq_self.2]
        intro z hz
        simp only [decide_eq_true_eq]
        intro e
        simp only [List.map_cons, List.nodup_cons] at hids
        exact hids.1 (List.mem_map.2 ⟨z, hz, e⟩)
      have HO := hide hout
      have hnn : 0 < n := hn0
      clear hout hy hids hs ho hid hle h
      go_wp2_with fail
      refine (cancel_any h1 hn y.id).mono ?_
      rintro e w2 ⟨rfl, h2, o2⟩
      rw [HO.out] at h2
      have hv : y.pay.v = y.v := rfl
      go_wp2_with fail
      go_ret2
      exact ⟨rfl, h2, (hl.only F).trans o2⟩
    · have hlt : now < x.at_ := by omega
      rw [show takeV (x :: r) now = .tuple #[.int .i64 0, .bool false] by simp [takeV, hle], show takeW (x :: r) now = x :: r by simp [takeW, hle]]
      clear hle
      go_enter Tryz.func8, Tryz.ntmps8
      go_wp2_with fail
      refine (first_any h).mono ?_
      rintro e w1 ⟨rfl, hl⟩
      have h1 : Is F w1 c (x :: r) last := h.kept (hl.only (fun _ => False)) (fun _ _ q => q)
      simp only [firstV]
      go_wp2_with fail
      go_ret2
      exact ⟨rfl, h1, hl.only F⟩

end
end HI
end Go.Proofs.YtmneilbfpomobaaGreat
