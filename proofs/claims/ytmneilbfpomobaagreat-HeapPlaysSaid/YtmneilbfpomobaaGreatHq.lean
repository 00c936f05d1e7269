/- The walks of package heap at int, fourth part: Put. -/
import Derived.Test.YtmneilbfpomobaaGreatHm
import Derived.WalkSpells
namespace Go.Proofs.YtmneilbfpomobaaGreat
open Go.RowKit
namespace HI

theorem undS : Tryz.prog.underlying 30 = some (.slice 70) := by kernel_rfl

section
variable {F : Nat → Prop} {w : World} {c : Nat} {last : Int} {W : List (Wt Int)}

set_option maxRecDepth 100000 in
set_option maxHeartbeats 2000000 in
theorem put_any (h : Is F w c W last) (hn : W.length ≤ 1000000) (hl0 : 0 ≤ last) (hl1 : last ≤ 1000000) (t v : Int) :
    Calls Tryz.prog 6 #[.pointer (some ⟨c, 0, none⟩), .int .i64 t, .int .i64 v] w fun e w' => ∃ F', e = .returned (.int .i64 (last + 1)) ∧ Is F' w' c (insW ⟨t, last + 1, v⟩ W) (last + 1) ∧ Only F w w' ∧ ∀ b, F' b → F b ∨ w.heap.size ≤ b := by
  obtain ⟨vs, n, a, R, h, ho, hs, rfl, hid⟩ := h
  have hlen := h.its.len
  have hadd : IntKind.i64.wrap (last + 1) = last + 1 := IntWalk.i64_in _ ⟨by omega, by omega⟩
  have hmk := @run_makeMap Tryz.prog
  have hnil := fun (w : World) (r : Option Nat) => run_eql_map_nil (P := Tryz.prog) w _ _ _ r undM
  have hcmp := h.mp
  obtain ⟨F1, w1, h1, o1, hsub, hM, hw1⟩ : ∃ F1 w1, At F1 w1 c vs n a R last ∧ Only F w w1 ∧ (∀ b, F1 b → F b ∨ w.heap.size ≤ b) ∧ (∃ M, w1.cell? ⟨c, 1, none⟩ = some (.map (some M))) ∧
      ((w.cell? ⟨c, 1, none⟩ = some (.map none) ∧ w1 = (w.alloc (.map #[] 0)).setCell ⟨c, 1, none⟩ (.map (some w.heap.size))) ∨ (∃ M, w.cell? ⟨c, 1, none⟩ = some (.map (some M))) ∧ w1 = w) := by
    rcases h.mp with ⟨q, rfl⟩ | ⟨M, f, q, _⟩
    · obtain ⟨r1, r2, r3⟩ := h.mkMap q
      exact ⟨_, _, r1, r2, fun b q => q.elim .inl (fun e => .inr (by omega)), ⟨_, r3⟩, .inl ⟨q, rfl⟩⟩
    · exact ⟨F, w, h, Only.refl _ _, fun b q => .inl q, ⟨M, q⟩, .inr ⟨⟨M, q⟩, rfl⟩⟩
  have hfree := h.free
  have hf1 := hfree 1
  have HH := hide h
  clear hcmp h hfree
  rw [List.length_map, hlen] at hn
  have hlast1 := h1.last
  have hfa := (HH.out.alloc (.map #[] 0)).free 1
  have hfa2 := (HH.out.alloc (.map #[] 0)).free 2
  have hfa3 := h1.free 2
  obtain ⟨h2, o2⟩ := h1.setLast (last + 1)
  have hM2 : ∃ M, (w1.setCell ⟨c, 2, none⟩ (.int .i64 (last + 1))).cell? ⟨c, 1, none⟩ = some (.map (some M)) := by
    obtain ⟨M, q⟩ := hM
    exact ⟨M, (cell_set_ne _ (by simp)).trans q⟩
  have o3 : Only F w (w1.setCell ⟨c, 2, none⟩ (.int .i64 (last + 1))) := o1.then o2 hsub
  clear hM o1 o2 h1
  go_enter Tryz.func6, Tryz.ntmps6
  rcases hw1 with ⟨hq, rfl⟩ | ⟨⟨M0, hq⟩, hww⟩
  case' inl =>
    have hqa : (w.alloc (.map #[] 0)).cell? ⟨c, 1, none⟩ = some (.map none) := cell_alloc _ hq
    go_wp2_with fail
    generalize (((w.alloc (.map #[] 0)).setCell ⟨c, 1, none⟩ (.map (some w.heap.size))).setCell ⟨c, 2, none⟩ (.int .i64 (last + 1))) = w2 at h2 hM2 o3 ⊢
    clear hqa
  case' inr =>
    have hww' := hww.symm
    clear hww
    subst hww'
    go_wp2_with fail
    generalize w.setCell ⟨c, 2, none⟩ (.int .i64 (last + 1)) = w2 at h2 hM2 o3 ⊢
  all_goals
    clear hlast1 hfa hfa2 hfa3 hq hnil hmk hf1 HH
    obtain ⟨av, cap, rfl⟩ := own_shape h2.row
    have hs2 := h2.sl
    have hl2 := h2.last
    go_region
    obtain ⟨x, hxe⟩ : ∃ x : It Int, x = ⟨w2.heap.size, t, last + 1, v⟩ := ⟨_, rfl⟩
    have hxb : x.b = w2.heap.size := by rw [hxe]
    have hxi : x.id = last + 1 := by rw [hxe]
    have hx3 : ItAt V (w2.alloc (.cells #[.int .i64 t, .int .i64 (last + 1), .int .i64 v, .int .i64 n] 72)).drew x n := by
      have ec : ∀ o, (w2.alloc (.cells #[.int .i64 t, .int .i64 (last + 1), .int .i64 v, .int .i64 n] 72)).cell? ⟨w2.heap.size, o, none⟩ = #[Value.int .i64 t, .int .i64 (last + 1), .int .i64 v, .int .i64 n][o]? := fun o => World.cell?_alloc_new w2 _ _ o
      rw [hxe]
      exact ⟨ec 0, ec 1, ec 2, ec 3, fun o => World.frozen?_alloc_new w2 _ _ o⟩
    have h3 := (h2.alloc (.cells #[.int .i64 t, .int .i64 (last + 1), .int .i64 v, .int .i64 n] 72)).drew
    have o4 : Only F1 w2 (w2.alloc (.cells #[.int .i64 t, .int .i64 (last + 1), .int .i64 v, .int .i64 n] 72)).drew := (Only.alloc _ _ _).trans (Only.drew _ _)
    have hM3 : ∃ M, (w2.alloc (.cells #[.int .i64 t, .int .i64 (last + 1), .int .i64 v, .int .i64 n] 72)).drew.cell? ⟨c, 1, none⟩ = some (.map (some M)) := by
      obtain ⟨M, q⟩ := hM2
      exact ⟨M, cell_alloc _ q⟩
    have hxF : ¬ F1 x.b := fun q => by have := h2.flt _ q; omega
    have hsz : w2.heap.size ≤ (w2.alloc (.cells #[.int .i64 t, .int .i64 (last + 1), .int .i64 v, .int .i64 n] 72)).drew.heap.size := by simp
    generalize (w2.alloc (.cells #[.int .i64 t, .int .i64 (last + 1), .int .i64 v, .int .i64 n] 72)).drew = w3 at *
    have hs3 := h3.sl
    have hown := h3.row
    have hoF := fun b q => (h3.own b q).1
    have hoc := fun q => (h3.own c q).2.1 rfl
    go_wp2_with (at_builtin; refine wpList_append_one rfl _ _ _ rfl 0 70 (.pointer none) 8 undS infoP rfl _ _ _ rfl hown (ptrB w2.heap.size) _ rfl rfl (by omega) (by omega) (Nat.zero_le _) ?_; intro v' w4 hown4 o5 hloc; rw [← hxb] at hown4; obtain ⟨av', cap', rfl⟩ := own_shape hown4; have hc4 := (o5.cell (p := ⟨c, 0, none⟩) h3.lt hoc).trans hs3; have hf4 := (o5.frozen (p := ⟨c, 0, none⟩) h3.lt hoc).trans (h3.free 0))
    obtain ⟨M, f, hM, hm, hFM, hlook⟩ : ∃ M f, w3.cell? ⟨c, 1, none⟩ = some (.map (some M)) ∧ MapIs (.int .i64) w3 M f n ∧ F1 M ∧ ∀ kv u, f kv = some u ↔ ∃ y ∈ R, Value.int .i64 y.id = kv ∧ ptrB y.b = u := by
      rcases h3.mp with ⟨q, _⟩ | q
      · obtain ⟨M, r⟩ := hM3; rw [q] at r; cases r
      · exact q
    have hvM : (Value.slice av n cap).ownBlock ≠ some M := fun q => by
      rcases hown.2 with ⟨e, _⟩ | ⟨g, cp, cur, e, _, hh, _⟩
      · rw [e] at q; cases q
      · rw [e] at q
        simp only [Value.ownBlock, Option.some.injEq] at q
        obtain ⟨es, k, hb, _⟩ := hm
        rw [← q, hh] at hb; cases hb
    have hm4 : MapIs (.int .i64) w4 M f n := hm.kept o5 hvM
    have hm5 : MapIs (.int .i64) (w4.drew.setCell ⟨c, 0, none⟩ (.slice av' (n + 1) cap')) M f n := (hm4.of_block (w' := w4.drew) rfl).setCell (w := w4.drew) hc4 (.slice av' (n + 1) cap')
    obtain ⟨ob, hrun, hm6⟩ := hm5.update (P := Tryz.prog) undM undK (isk (last + 1)) (ptrB x.b)
    have hrun5 : (Instr.mapUpdate 31 (.map (some M)) (.int .i64 (last + 1)) (ptrB w2.heap.size)).run Tryz.prog (w4.setCell ⟨c, 0, none⟩ (.slice av' (n + 1) cap')).drew = .ok () (setMap (w4.drew.setCell ⟨c, 0, none⟩ (.slice av' (n + 1) cap')) M ob) := by rw [← hxb]; exact hrun
    have hcM : c ≠ M := hm.ne hM
    obtain ⟨h6, o6⟩ := h3.push (w1 := w4.drew) hx3 hxF (fun y hy => by have := (hid y hy).2; omega) hM (ownsRow_only hown4 (Only.drew (fun _ => False) w4) (fun _ _ q => q)) (o5.trans (Only.drew _ _)) hloc hm hlook (ob := ob) (by rw [hxi]; exact hm6)
    have hxlt : x.b < w3.heap.size := lt_of_cell hx3.at_
    have hxo : (Value.slice av n cap).ownBlock ≠ some x.b := fun q => hxF (hoF _ q)
    have hxc : x.b ≠ c := fun e => hxF (e ▸ h3.fc)
    have hM5 : (w4.setCell ⟨c, 0, none⟩ (.slice av' (n + 1) cap')).cell? ⟨c, 1, none⟩ = some (.map (some M)) := by
      rw [cell_set_ne _ (by simp)]; exact (o5.cell (p := ⟨c, 1, none⟩) h3.lt hoc).trans hM
    have hx5 : (w4.setCell ⟨c, 0, none⟩ (.slice av' (n + 1) cap')).cell? ⟨w2.heap.size, 1, none⟩ = some (.int .i64 (last + 1)) := by
      rw [← hxb]
      rw [cell_set_ne _ (by simp)]
      refine (o5.cell (p := ⟨x.b, 1, none⟩) hxlt hxo).trans ?_
      rw [← hxi]; exact hx3.id
    have hfor : ∀ b, (Value.slice av' (n + 1) cap').ownBlock = some b → F b ∨ w.heap.size ≤ b := fun b q => (hloc b q).elim (fun r => hsub b (hoF b r)) (fun r => .inr (by have := o3.size; omega))
    have hpl := h6.items n (Nat.lt_succ_self n)
    simp only [if_true] at hpl
    have hpl := hpl.place
    have hsz2 := o3.size
    have HMS := hide (show Only F1 w2 _ from o4.trans o6)
    clear hs2 hl2 hs3 hown hoF hoc hM3 hM2 hm hm4 hm5 hm6 hrun hlook hFM hvM o5 hown4 hloc h2 h3 hx3 hxo hxlt hM o4 o6
    go_wp2_with fail
    go_region
    rw [show setMap (w4.setCell ⟨c, 0, none⟩ (.slice av' (n + 1) cap')).drew M ob = setMap (w4.drew.setCell ⟨c, 0, none⟩ (.slice av' (n + 1) cap')) M ob from rfl]
    clear hrun5 hM5 hx5 hc4 hf4
    generalize setMap (w4.drew.setCell ⟨c, 0, none⟩ (.slice av' (n + 1) cap')) M ob = w6 at *
    rw [hxb] at hpl
    have ho1 := (ho.last x).hole
    go_wp2_with fail
    refine (up_any h6 (by unfold maxLen; omega) (Nat.lt_succ_self n) ho1).mono ?_
    rintro e w7 ⟨rfl, a7, h7, ⟨hu7, _⟩, o7⟩
    have ho7 := hu7 (ho.last x)
    obtain ⟨k, hk, hak⟩ := h7.place (List.mem_cons_self (a := x) (l := R))
    have hid7 := (h7.items k hk).id
    rw [hak, hxi, hxb] at hid7
    clear hak hu7 hpl
    have hSub : ∀ b, (F1 b ∨ b = x.b ∨ (Value.slice av' (n + 1) cap').ownBlock = some b) → F b ∨ w.heap.size ≤ b := by
      rintro b (q | q | q)
      · exact hsub b q
      · exact .inr (by omega)
      · exact hfor b q
    have ofin : Only F w w7 := o3.then ((HMS.out.mono fun b _ q => .inl q).trans o7) hSub
    clear HMS o3 o7 hfor
    go_wp2_with fail
    go_ret
    refine ⟨_, rfl, ⟨_, _, a7, insS x R, h7.perm (insS_perm x R), ho7, insS_sorted x R hs (fun y hy => by have := (hid y hy).2; omega), ?_, ?_⟩, ofin, hSub⟩
    · rw [insS_pay, hxe]; rfl
    · intro y hy
      rcases List.mem_cons.1 ((insS_perm x R).mem_iff.2 hy) with rfl | hy
      · omega
      · have := hid y hy; omega

end
end HI
end Go.Proofs.YtmneilbfpomobaaGreat
