/- List of a heap (int): the values in the order of what waits. -/
import Derived.Test.YtmneilbfpomobaaGreatSortP
namespace Go.Proofs.YtmneilbfpomobaaGreat
open Go.RowKit
namespace HI

theorem undV : Tryz.prog.underlying 64 = some (.slice 3) := by kernel_rfl
theorem infoV : (Tryz.prog.info? 3).map (fun i => (i.zero, i.size, i.bytes)) = some (some (.int .i64 0), 1, 8) := by kernel_rfl

theorem ownsRow_lower {W : World} {base base' : Nat} {e : TypeId} {size : Nat} {v : Value} {k : Nat} {xs : List Value} (h : W.ownsRow base e size v k xs) (hb : base' ≤ base) : W.ownsRow base' e size v k xs := by
  obtain ⟨h1, h2⟩ := h
  refine ⟨h1, ?_⟩
  rcases h2 with h2 | ⟨g, cap, cur, rfl, hg, r⟩
  · exact .inl h2
  · exact .inr ⟨g, cap, cur, rfl, Nat.le_trans hb hg, r⟩

/-- the row of pointers that was sorted -/
def Told {β : Type} (w : World) (p : Option Addr) (R : List (It β)) : Prop := ∀ j (hj : j < R.length), ∃ g, p = some ⟨g, 0, none⟩ ∧ w.cell? ⟨g, j, none⟩ = some (ptrB R[j].b)

theorem sorted_any {β : Type} {n : Nat} {a : Nat → It β} {R : List (It β)} (its : Items a n R) (hs : R.Pairwise It.le) (hn : n ≤ 1000000) (w : World) (Bs : Nat) (sv : Value) (hc : w.cell? ⟨Bs, 0, none⟩ = some sv)
    (hI : Ptrs w.heap.size w sv (fun k => (a k).b) n) (c0 : ∀ i, i < n → w.cell? ⟨(a i).b, 0, none⟩ = some (.int .i64 (a i).at_)) (c1 : ∀ i, i < n → w.cell? ⟨(a i).b, 1, none⟩ = some (.int .i64 (a i).id)) :
    Calls Tryz.prog 22 #[.func (.func 88) #[] #[.pointer (some ⟨Bs, 0, none⟩)], .func (.func 24) #[] #[]] w fun e w' => ∃ p cap, e = .returned (.slice p n cap) ∧ Only (fun _ => False) w w' ∧ Told w' p R := by
  have hcol := collect_any Bs sv (fun k => (a k).b) n hn w (lt_of_cell hc) hc hI
  have H0 := hide c0
  have H1 := hide c1
  have HI2 := hide its
  have HS := hide hs
  clear c0 c1 its hs hI hc
  go_enter Tryz.func22, Tryz.ntmps22
  go_wp2_with fail
  refine hcol.mono ?_
  clear hcol
  rintro e w1 ⟨v, rfl, hrow, hB⟩
  have o1 : Only (fun _ => False) w w1 := ⟨hB.os, hB.tape, hB.output, hB.size, fun b hb _ => hB.block b hb⟩
  cases n with
  | zero =>
    obtain ⟨av, cap, rfl⟩ := own_shape hrow
    clear hrow hB
    go_wp2_with fail
    refine (sort_none _ _ _ _).mono ?_
    rintro e w2 ⟨rfl, rfl⟩
    go_wp2_with fail
    go_ret
    refine ⟨_, _, rfl, o1, fun j hj => ?_⟩
    have := HI2.out.len
    omega
  | succ k =>
    obtain ⟨g, cap, rfl⟩ := own_form hrow (Nat.succ_pos k)
    have hg := hrow.lt g rfl
    have hlt : ∀ i, i < k + 1 → (a i).b < w.heap.size := fun i hi => lt_of_cell (H0.out i hi)
    have hp := sort_some (w := w1) (blk := g) (cap := cap) HI2.out HS.out (by omega) (fun i hi => (hB.cell (p := ⟨(a i).b, 0, none⟩) (hlt i hi)).trans (H0.out i hi)) (fun i hi => (hB.cell (p := ⟨(a i).b, 1, none⟩) (hlt i hi)).trans (H1.out i hi))
      (fun i hi e => by have := hlt i hi; omega) (fun j hj => ⟨by rw [hrow.cellAt j (by omega)]; simp [upto, hj], hrow.frozenAt j⟩)
    clear hrow hB hlt
    go_wp2_with fail
    refine hp.mono ?_
    clear hp
    rintro e w2 ⟨rfl, o2, ht⟩
    have o3 : Only (fun _ => False) w w2 := o1.then o2 (fun i q => .inr (by omega))
    have HT : Hid (Told w2 (some ⟨g, 0, none⟩) R) := hide (fun j hj => ⟨g, rfl, ht j hj⟩)
    clear ht o1 o2
    go_wp2_with fail
    go_ret
    exact ⟨_, _, rfl, o3, HT.out⟩

set_option maxHeartbeats 1000000 in
theorem list_any {F : Nat → Prop} {w : World} {c : Nat} {last : Int} {W : List (Wt Int)} (h : Is F w c W last) (hn : W.length ≤ 1000000) :
    Calls Tryz.prog 14 #[.pointer (some ⟨c, 0, none⟩)] w fun e w' => ∃ v, e = .returned v ∧ w'.ownsRow w.heap.size 3 1 v W.length (W.map fun x => V x.v) ∧ Only (fun _ => False) w w' := by
  obtain ⟨vs, n, a, R, h, ho, hs, rfl, hid⟩ := h
  obtain ⟨av, cap, rfl⟩ := own_shape h.row
  have hlen := h.its.len
  rw [List.length_map, hlen] at hn
  have hsl := h.sl
  have hsz : ∀ i, i < n → (a i).b < w.heap.size := fun i hi => lt_of_cell (h.items i hi).at_
  have e1 : ∀ p : Addr, p.block < w.heap.size → (w.alloc (.cells #[.slice av n cap] 30)).cell? p = w.cell? p := fun p hp => (Only.alloc (fun _ => False) w _).cell hp (fun q => q)
  have hI : Ptrs (w.alloc (.cells #[.slice av n cap] 30)).heap.size (w.alloc (.cells #[.slice av n cap] 30)) (.slice av n cap) (fun k => (a k).b) n := by
    by_cases h0 : n = 0
    · subst h0
      rcases h.row.2 with ⟨q, _⟩ | ⟨g, cp, cur, q, _, hh, _⟩
      · exact .inl ⟨q, rfl⟩
      · cases q
        exact .inr ⟨g, cap, rfl, Nat.lt_of_lt_of_le (lt_of_map hh) (by simp), fun j hj => by omega⟩
    · obtain ⟨g, cp, q⟩ := own_form h.row (by omega)
      cases q
      exact .inr ⟨g, cap, rfl, Nat.lt_of_lt_of_le (lt_of_cell (h.cell (k := 0) (by omega)).1) (by simp), fun j hj => (e1 ⟨g, j, none⟩ (lt_of_cell (h.cell hj).1)).trans (h.cell hj).1⟩
  have hsrt := sorted_any h.its hs hn (w.alloc (.cells #[.slice av n cap] 30)) w.heap.size (.slice av n cap) (World.cell?_alloc_new w _ _ 0) hI
    (fun i hi => (e1 ⟨(a i).b, 0, none⟩ (hsz i hi)).trans (h.items i hi).at_) (fun i hi => (e1 ⟨(a i).b, 1, none⟩ (hsz i hi)).trans (h.items i hi).id)
  have HV : Hid (∀ j (hj : j < R.length), R[j].b < w.heap.size ∧ w.cell? ⟨R[j].b, 2, none⟩ = some (V R[j].v)) := hide (fun j hj => by
    obtain ⟨k, hk, e⟩ := h.place (List.getElem_mem hj)
    have hv := (h.items k hk).val
    rw [e] at hv
    exact ⟨lt_of_cell hv, hv⟩)
  have HL := hide hlen
  rw [List.map_map]
  have hg : (R.map It.pay).length = n := by rw [List.length_map, hlen]
  rw [hg]
  have hfun : ((fun x : Wt Int => V x.v) ∘ It.pay) = fun x : It Int => V x.v := rfl
  rw [hfun]
  clear hI e1 hsz ho hs hid hlen hg hfun h
  go_enter Tryz.func14, Tryz.ntmps14
  go_wp2_with fail
  refine (values_any _ _ _ _).mono ?_
  rintro e w1 ⟨rfl, rfl⟩
  go_wp2_with fail
  refine hsrt.mono ?_
  clear hsrt
  rintro e w2 ⟨p, cp, rfl, o2, ht⟩
  have o3 : Only (fun _ => False) w w2 := (Only.alloc (fun _ => False) w _).trans o2
  have HT := hide ht
  clear o2 ht hsl
  go_wp2_with fail
  go_loopw [3, 5, 15] (fun v _ i wr => ∃ j : Nat, j ≤ n ∧ i = .int .i64 j ∧ wr.ownsRow w2.heap.size 3 1 v j ((R.take j).map fun x => V x.v) ∧ Only (fun b => w2.heap.size ≤ b) w2 wr) (fun _ _ i _ => n - (intOf i).toNat)
  case atStart => exact ⟨0, Nat.zero_le _, rfl, World.ownsRow_nil _ _ _ _, Only.refl _ _⟩
  case round =>
    obtain ⟨j, hj, rfl, hrow, o4⟩ := hrel
    have hsz2 := o4.size
    by_cases hlt : j < n
    · have hjR : j < R.length := by rw [HL.out]; exact hlt
      obtain ⟨g, hpg, hcg⟩ := HT.out j hjR
      subst hpg
      obtain ⟨hb1, hv1⟩ := HV.out j hjR
      have hc1 : wr.cell? ⟨g, j, none⟩ = some (ptrB R[j].b) := (o4.cell (p := ⟨g, j, none⟩) (lt_of_cell hcg) (fun q => absurd (lt_of_cell hcg) (by simp at q; omega))).trans hcg
      have hb2 : R[j].b < w2.heap.size := Nat.lt_of_lt_of_le hb1 o3.size
      have hc2 : wr.cell? ⟨R[j].b, 2, none⟩ = some (V R[j].v) := (o4.cell (p := ⟨R[j].b, 2, none⟩) hb2 (fun q => absurd hb2 (by simp at q; omega))).trans ((o3.cell (p := ⟨R[j].b, 2, none⟩) hb1 (fun q => q)).trans hv1)
      have htk : (R.take (j + 1)).map (fun x => V x.v) = (R.take j).map (fun x => V x.v) ++ [V R[j].v] := by
        rw [List.take_succ_eq_append_getElem hjR, List.map_append]; rfl
      have HK := hide htk
      have hjn : (j : Int) < n := by omega
      generalize R[j].b = bb at *
      generalize R[j].v = vv at *
      clear hcg hv1 htk
      go_wp2_with (at_builtin; refine wpList_append_one rfl _ _ _ rfl w2.heap.size 3 (.int .i64 0) 8 undV infoV rfl _ _ _ rfl hrow (V vv) _ rfl rfl (by omega) (by omega) hsz2 ?_; intro v' w5 hrow5 o5 hloc)
      have o6 : Only (fun b => w2.heap.size ≤ b) w2 w5 := o4.trans (o5.mono fun b _ q => (hrow.lt b q).1)
      rw [← HK.out] at hrow5
      clear o5 hrow o4 hc1 hc2
      go_wp2_with fail
      go_roundw
      case rel => exact ⟨j + 1, hlt, by go_num, hrow5, o6⟩
      case measure => simp [intOf]; omega
    · obtain rfl : j = n := by omega
      have htk : R.take j = R := List.take_of_length_le (by rw [HL.out]; exact Nat.le_refl _)
      rw [htk] at hrow
      clear htk
      go_wp2_with fail
      go_ret
      exact ⟨_, rfl, ownsRow_lower hrow o3.size, o3.then o4 (fun i q => .inr (Nat.le_trans o3.size q))⟩

end HI
end Go.Proofs.YtmneilbfpomobaaGreat
