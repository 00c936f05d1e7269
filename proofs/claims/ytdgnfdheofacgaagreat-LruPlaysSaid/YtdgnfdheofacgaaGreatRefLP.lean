/- The reference's cache (commonsref1.Lru): Put. -/
import Derived.Test.YtdgnfdheofacgaaGreatRefL
import Derived.Test.YtdgnfdheofacgaaGreatUII
namespace Go.Proofs.YtdgnfdheofacgaaGreat
open Go.RowKit
namespace RL

theorem flat_set1 {S : List (Slot Int Int)} {k : Nat} (h : k < S.length) (y : Slot Int Int) (e1 : y.k = S[k].k) (e2 : y.pins = S[k].pins) : (flat3 f3 S).set (k * 3 + 1) (.int .i64 y.v) = flat3 f3 (S.set k y) := by
  induction S generalizing k with
  | nil => simp at h
  | cons x S ih =>
    cases k with
    | zero =>
      simp only [List.getElem_cons_zero] at e1 e2
      rw [List.set_cons_zero, flat3_cons, flat3_cons]
      simp [e1, e2]
    | succ k =>
      rw [List.set_cons_succ, flat3_cons, flat3_cons, ← ih (by simpa using h) (by simpa using e1) (by simpa using e2), show (k + 1) * 3 + 1 = (k * 3 + 1) + 3 by omega]
      rfl

theorem flat_set2 {S : List (Slot Int Int)} {k : Nat} (h : k < S.length) (y : Slot Int Int) (e1 : y.k = S[k].k) (e2 : y.v = S[k].v) : (flat3 f3 S).set (k * 3 + 2) (.int .i64 y.pins) = flat3 f3 (S.set k y) := by
  induction S generalizing k with
  | nil => simp at h
  | cons x S ih =>
    cases k with
    | zero =>
      simp only [List.getElem_cons_zero] at e1 e2
      rw [List.set_cons_zero, flat3_cons, flat3_cons]
      simp [e1, e2]
    | succ k =>
      rw [List.set_cons_succ, flat3_cons, flat3_cons, ← ih (by simpa using h) (by simpa using e1) (by simpa using e2), show (k + 1) * 3 + 2 = (k * 3 + 2) + 3 by omega]
      rfl

section
variable {G : Nat → Prop} {w : World} {r : Nat} {S : List (Slot Int Int)} {room : Int}

/-- One cell of the row is written. -/
theorem store_at {g cap : Nat} (h : At G w r (.slice (some ⟨g, 0, none⟩) S.length cap) S room) {j : Nat} {u : Value} {S' : List (Slot Int Int)} (hl : S'.length = S.length) (hs : (flat3 f3 S).set j u = flat3 f3 S') :
    At G (w.setCell ⟨g, j, none⟩ u) r (.slice (some ⟨g, 0, none⟩) S.length cap) S' room ∧ Only G w (w.setCell ⟨g, j, none⟩ u) := by
  obtain ⟨hg, hgr⟩ := h.own g rfl
  have o : Only G w (w.setCell ⟨g, j, none⟩ u) := Only.setCell (S := G) w (a := ⟨g, j, none⟩) hg _
  obtain ⟨r1, _⟩ := h.row.stored j u
  rw [hs] at r1
  have hne : r ≠ g := fun e => hgr e.symm
  have e : ∀ o, (w.setCell ⟨g, j, none⟩ u).cell? ⟨r, o, none⟩ = w.cell? ⟨r, o, none⟩ := fun o => cell_set_ne _ (fun q => hne (congrArg Addr.block q))
  refine ⟨⟨(e 0).trans h.cl, (e 1).trans h.cx, fun q => (World.frozen?_setCell ..).trans (h.free q), by rw [hl]; exact r1, h.own, h.gr, fun b q => Nat.lt_of_lt_of_le (h.glt b q) o.size⟩, o⟩

/-- The list is copied, and one cell of the copy is written. -/
theorem copy_store {va u : Value} {w1 w6 : World} {g1 n cap1 j : Nat} {S' : List (Slot Int Int)} (h : At G w r va S room) (hb1 : Below w.heap.size w w1) (hr1 : w1.ownsRow w.heap.size 62 3 (.slice (some ⟨g1, 0, none⟩) n cap1) n (flat3 f3 S)) (hn : n = S.length)
    (hl : S'.length = S.length) (hs : (flat3 f3 S).set j u = flat3 f3 S') (hw : Like w6 ((w1.setCell ⟨r, 0, none⟩ (.slice (some ⟨g1, 0, none⟩) n cap1)).setCell ⟨g1, j, none⟩ u)) : ∃ G', Is G' w6 r S' room ∧ Only G w w6 ∧ ∀ b, G' b → G b ∨ w.heap.size ≤ b := by
  subst hn
  have hat : ∀ b, (Value.slice (some ⟨g1, 0, none⟩) S.length cap1).ownBlock = some b → w.heap.size ≤ b := fun b q => (hr1.lt b q).1
  obtain ⟨h2, o2⟩ := h.setL (⟨hb1.os, hb1.tape, hb1.output, hb1.size, fun b hb _ => hb1.block b hb⟩ : Only (fun _ => False) w w1) (row_lower hr1 (Nat.zero_le _)) hat (w' := w1.setCell ⟨r, 0, none⟩ (.slice (some ⟨g1, 0, none⟩) S.length cap1)) ⟨rfl, rfl, rfl, rfl⟩
  obtain ⟨h3, o3⟩ := store_at h2 hl hs
  refine ⟨_, ⟨_, h3.like hw⟩, ?_, fun b q => q.elim .inl (fun q => .inr (hat b q))⟩
  exact (Only.then (S := G) o2 o3 fun b q => q.elim .inl (fun q => .inr (hat b q))).trans (hw.only G)

theorem idx_slot (hn : (S.map (·.k)).Nodup) (k : Int) : (∃ i, ∃ hi : i < S.length, idx S k = i ∧ slotOf S k = some S[i] ∧ S[i].k = k ∧ without S k = S.eraseIdx i) ∨ (idx S k = -1 ∧ slotOf S k = none) := by
  unfold idx
  cases h : S.findIdx? (fun s => s.k == k) with
  | none =>
    refine .inr ⟨rfl, List.find?_eq_none.2 fun y hy => ?_⟩
    have := List.findIdx?_eq_none_iff.1 h y hy
    simpa using this
  | some i =>
    rw [List.findIdx?_eq_some_iff_getElem] at h
    obtain ⟨hi, h1, h2⟩ := h
    have hk : S[i].k = k := by simpa using h1
    refine .inl ⟨i, hi, rfl, ?_, hk, ?_⟩
    · rw [← hk]; exact slotOf_mem hn (List.getElem_mem hi)
    · have e : S = S.take i ++ S[i] :: S.drop (i + 1) := by rw [List.getElem_cons_drop, List.take_append_drop]
      have hn' := hn
      rw [e] at hn'
      have := without_mid hn'
      rw [← e, hk] at this
      rw [this, List.eraseIdx_eq_take_drop_succ]

attribute [local go_sem ↓] Go.wp_at_zero Go.wp_at_succ

set_option maxRecDepth 100000 in
set_option maxHeartbeats 2000000 in
/-- Put, where the key is there. -/
theorem put_hit (h : Is G w r S room) (hn : S.length ≤ 1000000) {k v : Int} {i : Nat} (hi : i < S.length) (hx : idx S k = i) :
    Calls Tryz.prog 9 #[.pointer (some ⟨r, 0, none⟩), .int .i64 k, .int .i64 v] w fun e w' => e = .returned (.tuple #[.int .i64 0, .int .i64 0, .bool false, .bool true]) ∧ ∃ G', Is G' w' r ({ S[i] with v := v } :: S.eraseIdx i) room ∧ Only G w w' ∧ ∀ b, G' b → G b ∨ w.heap.size ≤ b := by
  have hf := find_any h hn k
  rw [hx] at hf
  clear hx
  obtain ⟨va, h⟩ := h
  obtain ⟨g, cap, rfl⟩ := own_form h.row (by omega)
  have hcl := h.cl
  have hfr := h.free 0
  have hrlt := h.glt r h.gr
  have HH := hide h
  have HF := hide hf
  have hk0 : (0 : Int) ≤ i := by omega
  have hin : (i : Int) < S.length := by omega
  have hrow := h.row
  clear h hf
  go_enter Tryz.func9, Tryz.ntmps9
  go_wp2_with fail
  refine HF.out.mono ?_
  rintro e w' ⟨rfl, rfl⟩
  go_wp2_with (at_builtin; refine wpList_append_has rfl _ _ _ rfl undW infW rfl (by decide) rfl rfl (World.ownsRow_nil _ w.heap.size _ _) (Has.own hrow) (flat3_one _) (by omega) (by omega) (Nat.le_refl _) ?_; intro v1 w1 hr1 o1 hat1; rw [Nat.zero_add, List.nil_append] at hr1; obtain ⟨g1, cap1, rfl⟩ := own_form hr1 (by omega); have hat1' : ∀ b, (Value.slice (some ⟨g1, 0, none⟩) S.length cap1).ownBlock = some b → w.heap.size ≤ b := (fun b q => (hr1.lt b q).1); have hb1 := new_below (Below.refl _ _) o1 hat1'; have hc1 := (hb1.cell (p := ⟨r, 0, none⟩) hrlt).trans hcl; have hf1 := (hb1.frozen (p := ⟨r, 0, none⟩) hrlt).trans hfr; obtain ⟨h2, o2⟩ := HH.out.setL (w' := w1.setCell ⟨r, 0, none⟩ (.slice (some ⟨g1, 0, none⟩) S.length cap1)) (⟨hb1.os, hb1.tape, hb1.output, hb1.size, fun b hb _ => hb1.block b hb⟩ : Only (fun _ => False) w w1) (row_lower hr1 (Nat.zero_le _)) hat1' ⟨rfl, rfl, rfl, rfl⟩; have hc2 := h2.cl; have hs2 : ∃ u2, (w1.setCell ⟨r, 0, none⟩ (.slice (some ⟨g1, 0, none⟩) S.length cap1)).cell? ⟨g1, i * 3 + 1, none⟩ = some u2 := ⟨_, by rw [h2.row.cellAt _ (by omega)]; exact (flat3_get (f := f3) hi).2.1⟩; obtain ⟨u2, hs2⟩ := hs2; have hf2 := h2.row.frozenAt (i * 3 + 1))
  obtain ⟨h3, o3⟩ := store_at h2 (S' := S.set i { S[i] with v := v }) (by simp) (flat_set1 hi { S[i] with v := v } rfl rfl)
  have huse := use_any ⟨_, h3⟩ (k := i) (by simpa using hn) (by simpa using hi)
  have hlist : (S.set i { S[i] with v := v })[i]'(by simpa using hi) :: (S.set i { S[i] with v := v }).eraseIdx i = { S[i] with v := v } :: S.eraseIdx i := by
    rw [List.getElem_set_self, List.eraseIdx_set_eq]
  rw [hlist] at huse
  have HU := hide huse
  have HO : Hid (Only G w ((w1.setCell ⟨r, 0, none⟩ (.slice (some ⟨g1, 0, none⟩) S.length cap1)).setCell ⟨g1, i * 3 + 1, none⟩ (.int .i64 v))) := hide (by
    refine Only.then (S := G) o2 o3 fun b q => q.elim .inl (fun q => .inr (hat1' b q))
    )
  have HA := hide hat1'
  clear huse hlist h3 o3 h2 o2 hr1 o1 hat1 hb1 hc1 hf1 hc2 hs2 hf2 hat1'
  generalize ((w1.setCell ⟨r, 0, none⟩ (.slice (some ⟨g1, 0, none⟩) S.length cap1)).setCell ⟨g1, i * 3 + 1, none⟩ (.int .i64 v)) = w3 at *
  refine HU.out.mono ?_
  rintro e w4 ⟨rfl, G4, h4, o4, hG4⟩
  go_wp2_with fail
  (try simp only [Exit.inBlock, Exit.then])
  refine bodyPost_ret (results_tmp4 rfl _ _ _) rfl ?_
  have hz := HO.out.size
  refine ⟨rfl, G4, h4, Only.then (S := G) HO.out o4 (fun b q => q.elim .inl (fun q => .inr (HA.out b q))), fun b q => ?_⟩
  rcases hG4 b q with (e | e) | e
  · exact .inl e
  · exact .inr (HA.out b e)
  · exact .inr (by omega)

/-- A new slot stands first: behind the walk of 'c.L = append([]Slot{..}, c.L...)'. -/
theorem front_end {w1 w5 w6 : World} {va v5 : Value} {k v : Int} (h : At G w r va S room) (b0 : Below w.heap.size w w1) (hb : Below w1.heap.size w1 w5) (hr : w5.ownsRow w1.heap.size 62 3 v5 (1 + S.length) ([Value.int .i64 k, .int .i64 v, .int .i64 0] ++ flat3 f3 S)) (hw : Like w6 (w5.setCell ⟨r, 0, none⟩ v5)) :
    ∃ G', Is G' w6 r (⟨k, v, 0⟩ :: S) room ∧ Only G w w6 ∧ ∀ b, G' b → G b ∨ w.heap.size ≤ b := by
  refine use_end h b0 hb ?_ hw
  rw [flat3_cons, List.length_cons, Nat.add_comm S.length 1]
  exact hr

set_option maxRecDepth 100000 in
set_option maxHeartbeats 2000000 in
/-- Put, where the key is not there and there is room. -/
theorem put_room (h : Is G w r S room) (hn : S.length ≤ 1000000) {k v : Int} (hx : idx S k = -1) (hr : (S.length : Int) < room) :
    Calls Tryz.prog 9 #[.pointer (some ⟨r, 0, none⟩), .int .i64 k, .int .i64 v] w fun e w' => e = .returned (.tuple #[.int .i64 0, .int .i64 0, .bool false, .bool true]) ∧ ∃ G', Is G' w' r (⟨k, v, 0⟩ :: S) room ∧ Only G w w' ∧ ∀ b, G' b → G b ∨ w.heap.size ≤ b := by
  have hf := find_any h hn k
  rw [hx] at hf
  clear hx
  obtain ⟨va, h⟩ := h
  obtain ⟨a, cap, rfl⟩ := own_shape h.row
  have hrlt := h.glt r h.gr
  have b0 : Below w.heap.size w (w.alloc (.cells #[.int .i64 0, .int .i64 0, .int .i64 0] 62)) := (Below.refl _ _).alloc (Nat.le_refl _) _
  have hcl := (b0.cell (p := ⟨r, 0, none⟩) hrlt).trans h.cl
  have hcx := (b0.cell (p := ⟨r, 1, none⟩) hrlt).trans h.cx
  have hfr := (b0.frozen (p := ⟨r, 0, none⟩) hrlt).trans (h.free 0)
  have hro : r < (w.alloc (.cells #[.int .i64 0, .int .i64 0, .int .i64 0] 62)).heap.size := Nat.lt_of_lt_of_le hrlt b0.size
  have hrow := (Has.own h.row).below b0
  have HH := hide h
  have HF := hide hf
  have hd : decide (room ≤ (S.length : Int)) = false := by simp; omega
  have hbl : w.heap.size < (w.alloc (.cells #[.int .i64 0, .int .i64 0, .int .i64 0] 62)).heap.size := by simp
  have q0 : (w.alloc (.cells #[.int .i64 0, .int .i64 0, .int .i64 0] 62)).cell? ⟨w.heap.size, 0, none⟩ = some (.int .i64 0) := by rw [World.cell?_alloc_new]; rfl
  have q1 : (w.alloc (.cells #[.int .i64 0, .int .i64 0, .int .i64 0] 62)).cell? ⟨w.heap.size, 1, none⟩ = some (.int .i64 0) := by rw [World.cell?_alloc_new]; rfl
  clear h hf
  go_enter Tryz.func9, Tryz.ntmps9
  go_wp2_with fail
  refine HF.out.mono ?_
  rintro e w' ⟨rfl, rfl⟩
  go_wp2_with fail
  generalize hbo : w.heap.size = bo at q0 q1 hbl ⊢
  rw [hbo] at b0
  generalize (w.alloc (.cells #[.int .i64 0, .int .i64 0, .int .i64 0] 62)) = wo at *
  have HBO := hide hbo
  have HNE : Hid (bo ≠ r) := hide (by omega)
  clear hbo
  go_quiet (fail)
  have b1 : Below bo w (wo.drewN nq) := ⟨b0.os, b0.tape, b0.output, b0.size, b0.block⟩
  have hcl1 : (wo.drewN nq).cell? ⟨r, 0, none⟩ = some (.slice a S.length cap) := hcl
  have hfr1 : (wo.drewN nq).frozen? ⟨r, 0, none⟩ = false := hfr
  have hro1 : r < (wo.drewN nq).heap.size := hro
  have hrow1 := hrow.drewN nq
  have hbl1 : bo < (wo.drewN nq).heap.size := hbl
  have p0 : (wo.drewN nq).cell? ⟨bo, 0, none⟩ = some (.int .i64 0) := q0
  have p1 : (wo.drewN nq).cell? ⟨bo, 1, none⟩ = some (.int .i64 0) := q1
  clear b0 hcl hfr hro hrow hbl q0 q1 hcx hd
  generalize (wo.drewN nq) = wp at *
  go_wp2_with (at_builtin; refine wpList_append_has rfl _ _ _ rfl undW infW rfl (by decide) rfl rfl (own_new _ #[.int .i64 k, .int .i64 v, .int .i64 0] _) (hrow1.alloc _) (flat3_one _) (by omega) (by omega) (by simp) ?_; intro v5 w5 hr5 o5 hat5; obtain ⟨a5, c5, rfl⟩ := own_shape hr5; have hb5 := new_below ((Only.alloc (fun _ => False) wp _).below (Nat.le_refl _) (fun _ q => q.elim)) o5 (fun b q => (hr5.lt b q).1); have hc5 := (hb5.cell (p := ⟨r, 0, none⟩) hro1).trans hcl1; have hf5 := (hb5.frozen (p := ⟨r, 0, none⟩) hro1).trans hfr1; have q05 : (w5.setCell ⟨r, 0, none⟩ (.slice a5 (1 + S.length) c5)).cell? ⟨bo, 0, none⟩ = some (.int .i64 0) := (cell_set_ne _ (fun q => HNE.out (congrArg Addr.block q))).trans ((hb5.cell (p := ⟨bo, 0, none⟩) hbl1).trans p0); have q15 : (w5.setCell ⟨r, 0, none⟩ (.slice a5 (1 + S.length) c5)).cell? ⟨bo, 1, none⟩ = some (.int .i64 0) := (cell_set_ne _ (fun q => HNE.out (congrArg Addr.block q))).trans ((hb5.cell (p := ⟨bo, 1, none⟩) hbl1).trans p1))
  have hend := front_end HH.out (HBO.out ▸ b1) hb5 hr5 ⟨rfl, rfl, rfl, rfl⟩
  have HE := hide hend
  clear hend hc5 hf5 hb5 hr5 o5 hat5 b1 hrow1 hcl1 hfr1 p0 p1
  generalize (w5.setCell ⟨r, 0, none⟩ (.slice a5 (1 + S.length) c5)) = w6 at *
  go_quiet (fail)
  go_wp2_with fail
  (try simp only [Exit.inBlock, Exit.then])
  refine bodyPost_ret (results_tmp4 rfl _ _ _) rfl ?_
  obtain ⟨G', h1, h2, h3⟩ := HE.out
  refine ⟨rfl, G', h1.like ⟨rfl, rfl, rfl, rfl⟩, h2.trans (Like.only (w' := w6.drewN nq) (w := w6) ⟨rfl, rfl, rfl, rfl⟩ _), h3⟩

/-- where Put's loop stands: behind j all are pinned -/
theorem idle_at {j : Nat} (hj : j < S.length) (h0 : S[j].pins = 0) (h : ∀ q, j < q → (hq : q < S.length) → S[q].pins ≠ 0) : idleS S = some S[j] := by
  have e : S = S.take j ++ S[j] :: S.drop (j + 1) := by rw [List.getElem_cons_drop, List.take_append_drop]
  have h2 := idleS_mid (S := S.take j) (T := S.drop (j + 1)) h0 (fun y hy => by
    obtain ⟨i, hi, rfl⟩ := List.mem_iff_getElem.1 hy
    rw [List.getElem_drop]
    exact h _ (by omega) _)
  rw [← e] at h2
  exact h2

theorem idle_no (h : ∀ q, (hq : q < S.length) → S[q].pins ≠ 0) : idleS S = none := idleS_none fun s hs => by
  obtain ⟨i, hi, rfl⟩ := List.mem_iff_getElem.1 hs
  exact h i hi

/-- what Put leaves where there is no room -/
def FullPost (G : Nat → Prop) (w : World) (r : Nat) (S : List (Slot Int Int)) (room k v : Int) (e : Ending) (w' : World) : Prop :=
  match idleS S with
  | none => e = .returned (.tuple #[.int .i64 0, .int .i64 0, .bool false, .bool false]) ∧ Is G w' r S room ∧ Only G w w'
  | some x => e = .returned (.tuple #[.int .i64 x.k, .int .i64 x.v, .bool true, .bool true]) ∧ ∃ G', Is G' w' r (⟨k, v, 0⟩ :: without S x.k) room ∧ Only G w w' ∧ ∀ b, G' b → G b ∨ w.heap.size ≤ b

theorem full_none {k v : Int} {e : Ending} {w' : World} (hid : idleS S = none) (h : e = .returned (.tuple #[.int .i64 0, .int .i64 0, .bool false, .bool false]) ∧ Is G w' r S room ∧ Only G w w') : FullPost G w r S room k v e w' := by
  unfold FullPost; rw [hid]; exact h

theorem full_some {k v : Int} {e : Ending} {w' : World} {x : Slot Int Int} (hid : idleS S = some x) (h : e = .returned (.tuple #[.int .i64 x.k, .int .i64 x.v, .bool true, .bool true]) ∧ ∃ G', Is G' w' r (⟨k, v, 0⟩ :: without S x.k) room ∧ Only G w w' ∧ ∀ b, G' b → G b ∨ w.heap.size ≤ b) : FullPost G w r S room k v e w' := by
  unfold FullPost; rw [hid]; exact h

set_option maxRecDepth 100000 in
set_option maxHeartbeats 4000000 in
/-- Put, where the key is not there and there is no room. -/
theorem put_full (h : Is G w r S room) (hn : S.length ≤ 1000000) (hp : ∀ s ∈ S, 0 ≤ s.pins) (hnd : (S.map (·.k)).Nodup) {k v : Int} (hx : idx S k = -1) (hr : room ≤ (S.length : Int)) :
    Calls Tryz.prog 9 #[.pointer (some ⟨r, 0, none⟩), .int .i64 k, .int .i64 v] w (FullPost G w r S room k v) := by
  have hf := find_any h hn k
  rw [hx] at hf
  clear hx
  have HIS := hide h
  obtain ⟨va, h⟩ := h
  obtain ⟨a, cap, rfl⟩ := own_shape h.row
  have hrlt := h.glt r h.gr
  have b0 : Below w.heap.size w (w.alloc (.cells #[.int .i64 0, .int .i64 0, .int .i64 0] 62)) := (Below.refl _ _).alloc (Nat.le_refl _) _
  have hcl := (b0.cell (p := ⟨r, 0, none⟩) hrlt).trans h.cl
  have hcx := (b0.cell (p := ⟨r, 1, none⟩) hrlt).trans h.cx
  have h1 := h.kept (Only.alloc (fun _ => False) w (.cells #[.int .i64 0, .int .i64 0, .int .i64 0] 62)) (fun _ _ q => q)
  have HF := hide hf
  have HP := hide hp
  have HND := hide hnd
  have hd : decide (room ≤ (S.length : Int)) = true := by simp; omega
  have hbl : w.heap.size < (w.alloc (.cells #[.int .i64 0, .int .i64 0, .int .i64 0] 62)).heap.size := by simp
  obtain ⟨n, hnn⟩ : ∃ n, n = S.length := ⟨_, rfl⟩
  rw [← hnn] at hcl hn hr hd
  have HN := hide hnn
  have HH := hide h
  have H1 := hide h1
  clear h hf hp hnd hnn h1
  go_enter Tryz.func9, Tryz.ntmps9
  go_wp2_with fail
  refine HF.out.mono ?_
  rintro e w' ⟨rfl, rfl⟩
  go_wp2_with fail
  have hz : ∀ o, (w.alloc (.cells #[.int .i64 0, .int .i64 0, .int .i64 0] 62)).cell? ⟨w.heap.size, o, none⟩ = #[Value.int .i64 0, .int .i64 0, .int .i64 0][o]? := fun o => World.cell?_alloc_new w _ _ o
  have hzf : ∀ o, (w.alloc (.cells #[.int .i64 0, .int .i64 0, .int .i64 0] 62)).frozen? ⟨w.heap.size, o, none⟩ = false := fun o => World.frozen?_alloc_new w _ _ o
  have HZ := hide hz
  have HZF := hide hzf
  clear hz hzf
  generalize hbo : w.heap.size = bo at HZ HZF hbl b0 ⊢
  generalize (w.alloc (.cells #[.int .i64 0, .int .i64 0, .int .i64 0] 62)) = wo at *
  have HBO := hide hbo
  have HNE : Hid (bo ≠ r) := hide (by omega)
  clear hbo
  go_quiet (fail)
  go_wp2_with fail
  have b1 : Below bo w (wo.drewN nq) := ⟨b0.os, b0.tape, b0.output, b0.size, b0.block⟩
  have hcl1 : (wo.drewN nq).cell? ⟨r, 0, none⟩ = some (.slice a n cap) := hcl
  have H2 := hide (H1.out.like (w' := wo.drewN nq) ⟨rfl, rfl, rfl, rfl⟩)
  have z0 : (wo.drewN nq).cell? ⟨bo, 0, none⟩ = some (.int .i64 0) := HZ.out 0
  have z1 : (wo.drewN nq).cell? ⟨bo, 1, none⟩ = some (.int .i64 0) := HZ.out 1
  have z2 : (wo.drewN nq).cell? ⟨bo, 2, none⟩ = some (.int .i64 0) := HZ.out 2
  have zf : ∀ o, (wo.drewN nq).frozen? ⟨bo, o, none⟩ = false := HZF.out
  have hbl1 : bo < (wo.drewN nq).heap.size := hbl
  clear b0 hcl hcx hd hbl H1 HZ HZF
  generalize (wo.drewN nq) = wp at *
  go_loopw [10] (fun t wr => ∃ j : Nat, j ≤ n ∧ t = .int .i64 ((j : Int) - 1) ∧ (∀ q, j ≤ q → (hq : q < S.length) → S[q].pins ≠ 0) ∧ wr = wp) (fun t _ => (intOf t + 1).toNat)
  case atStart => exact ⟨n, Nat.le_refl _, rfl, fun q h1 h2 => by have := HN.out; omega, rfl⟩
  case round =>
    obtain ⟨j, hj, ht, hno, rfl⟩ := hrel
    have HNO := hide hno
    clear hno
    cases j with
    | zero =>
      obtain rfl : u10 = .int .i64 (-1) := ht
      have hid : idleS S = none := idle_no (fun q hq => HNO.out q (Nat.zero_le _) hq)
      have HID := hide hid
      clear hid
      go_wp2_with fail
      (try simp only [Exit.inBlock, Exit.then])
      refine bodyPost_ret (results_tmp4 rfl _ _ _) rfl ?_
      have ob : Only (fun _ => False) w wr := ⟨b1.os, b1.tape, b1.output, b1.size, fun b hb _ => b1.block b (by have := HBO.out; omega)⟩
      exact full_none HID.out ⟨rfl, HIS.out.kept ob (fun _ _ q => q), ob.mono fun _ _ q => q.elim⟩
    | succ i =>
      obtain rfl : u10 = .int .i64 i := by rw [ht]; congr 1; omega
      have hi : i < S.length := by have := HN.out; omega
      obtain ⟨g, cp, e, c0, c1, c2⟩ := H2.out.at_ hi
      rw [← HN.out] at e
      cases e
      have hi0 : (0 : Int) ≤ i := by omega
      have hin : (i : Int) < n := by omega
      have hpi := HP.out S[i] (List.getElem_mem hi)
      have d0 : wr.cell? ⟨g, i * 3, none⟩ = some (.int .i64 S[i].k) := c0
      have d1 : wr.cell? ⟨g, i * 3 + 1, none⟩ = some (.int .i64 S[i].v) := c1
      have d2 : wr.cell? ⟨g, i * 3 + 2, none⟩ = some (.int .i64 S[i].pins) := c2
      clear c0 c1 c2 ht
      by_cases h0 : S[i].pins = 0
      · have hid : idleS S = some S[i] := idle_at hi h0 (fun q h1 h2 => HNO.out q (by omega) h2)
        have hwo : without S S[i].k = S.eraseIdx i := by
          rcases idx_slot HND.out S[i].k with ⟨i', hi', _, hs, _, h⟩ | ⟨_, hs⟩
          · have e1 := slotOf_mem HND.out (List.getElem_mem hi)
            rw [e1] at hs
            have hkk := Option.some.inj hs
            have : i' = i := by
              have h3 := List.getElem_inj (h₀ := by simpa using hi') (h₁ := by simpa using hi) HND.out
              refine h3.1 ?_
              rw [List.getElem_map, List.getElem_map, ← hkk]
            rw [h, this]
          · rw [slotOf_mem HND.out (List.getElem_mem hi)] at hs; cases hs
        rw [h0] at d2
        have HW := hide hwo
        have HID := hide hid
        have zf0 := zf 0
        have zf1 := zf 1
        have zf2 := zf 2
        clear hid hwo h0 hpi zf
        go_upto_region 16 with fail
        have hGb : ∀ b, G b → b ≠ bo := fun b q => by have := HH.out.glt b q; have := HBO.out; omega
        have ox : Only (fun b => b = bo) wr (((wr.setCell ⟨bo, 0, none⟩ (.int .i64 S[i].k)).setCell ⟨bo, 1, none⟩ (.int .i64 S[i].v)).setCell ⟨bo, 2, none⟩ (.int .i64 0)) := ((Only.setCell (S := fun b => b = bo) wr (a := ⟨bo, 0, none⟩) rfl _).trans (Only.setCell (S := fun b => b = bo) _ (a := ⟨bo, 1, none⟩) rfl _)).trans (Only.setCell (S := fun b => b = bo) _ (a := ⟨bo, 2, none⟩) rfl _)
        have h3 := H2.out.kept ox hGb
        have y0 : (((wr.setCell ⟨bo, 0, none⟩ (.int .i64 S[i].k)).setCell ⟨bo, 1, none⟩ (.int .i64 S[i].v)).setCell ⟨bo, 2, none⟩ (.int .i64 0)).cell? ⟨bo, 0, none⟩ = some (.int .i64 S[i].k) := by
          rw [cell_set_ne _ (by simp), cell_set_ne _ (by simp)]
          exact World.cell?_setCell_same _ _ _ z0
        have y1 : (((wr.setCell ⟨bo, 0, none⟩ (.int .i64 S[i].k)).setCell ⟨bo, 1, none⟩ (.int .i64 S[i].v)).setCell ⟨bo, 2, none⟩ (.int .i64 0)).cell? ⟨bo, 1, none⟩ = some (.int .i64 S[i].v) := by
          rw [cell_set_ne _ (by simp)]
          exact World.cell?_setCell_same _ _ _ ((cell_set_ne _ (by simp)).trans z1)
        have bx : Below bo w (((wr.setCell ⟨bo, 0, none⟩ (.int .i64 S[i].k)).setCell ⟨bo, 1, none⟩ (.int .i64 S[i].v)).setCell ⟨bo, 2, none⟩ (.int .i64 0)) := b1.trans (ox.below (Nat.le_of_lt hbl1) (fun b q => by omega))
        have hbx : bo < (((wr.setCell ⟨bo, 0, none⟩ (.int .i64 S[i].k)).setCell ⟨bo, 1, none⟩ (.int .i64 S[i].v)).setCell ⟨bo, 2, none⟩ (.int .i64 0)).heap.size := Nat.lt_of_lt_of_le hbl1 ox.size
        clear z0 z1 z2 zf0 zf1 zf2 d0 d1 d2 hcl1 hbl1 b1 ox H2 hGb
        generalize (((wr.setCell ⟨bo, 0, none⟩ (.int .i64 S[i].k)).setCell ⟨bo, 1, none⟩ (.int .i64 S[i].v)).setCell ⟨bo, 2, none⟩ (.int .i64 0)) = wx at *
        have hcx := h3.cl
        rw [← HN.out] at hcx
        have hfx := h3.free 0
        have hrx := h3.glt r h3.gr
        obtain ⟨ii, hii, _, hsz, _⟩ := info_parts infW
        obtain ⟨u1, hs1, hu1⟩ := (Has.own h3.row).cutTo (P := Tryz.prog) (hi := i) (by omega) undW hii
        obtain ⟨u2, hs2, hu2⟩ := (Has.own h3.row).cutFrom (P := Tryz.prog) (lo := i + 1) (by omega) undW hii hsz
        rw [flat3_take] at hu1
        rw [flat3_drop] at hu2
        obtain ⟨m, hm⟩ : ∃ m, m = S.length - (i + 1) := ⟨_, rfl⟩
        rw [← hm] at hu2
        obtain ⟨a1, c1, rfl⟩ := hu1.shape
        obtain ⟨a2, c2, rfl⟩ := hu2.shape
        have hs3 : ∀ w' : World, (Instr.slice 28 (.slice (some ⟨g, 0, none⟩) S.length cap) (some (.int .i64 ((i : Int) + 1))) none none).run Tryz.prog w' = .ok (.slice a2 m c2) w' := hs2
        rw [← HN.out] at hs1 hs3
        have hadd : IntKind.i64.wrap ((i : Int) + 1) = (i : Int) + 1 := IntWalk.i64_in _ ⟨by omega, by omega⟩
        have hmm : m ≤ 1000000 := by have := HN.out; omega
        have hlen : Hid (i + m = (S.eraseIdx i).length) := hide (by rw [List.length_eraseIdx, if_pos hi]; omega)
        have hlist : Hid (flat3 f3 (S.take i) ++ flat3 f3 (S.drop (i + 1)) = flat3 f3 (S.eraseIdx i)) := hide (by rw [List.eraseIdx_eq_take_drop_succ, flat3_append])
        have H3 := hide h3
        clear h3 hs2 hii hsz hm
        go_cut [] (fun wc => ∃ v5 w5, Below wx.heap.size wx w5 ∧ w5.ownsRow wx.heap.size 62 3 v5 (S.eraseIdx i).length (flat3 f3 (S.eraseIdx i)) ∧ Like wc (w5.setCell ⟨r, 0, none⟩ v5))
        case first =>
          go_region_law
            (first
              | (refine step_append_has (by rfl) _ (.tmp 83) _ (by rfl) undW infW rfl (by decide) (by rfl) (by rfl) (World.ownsRow_nil _ wx.heap.size _ _) hu1.drew (flat3_one _) (by omega) (by omega) (Nat.le_refl _) ?_; intro v3 w3 hr3 o3 hat3; rw [Nat.zero_add, List.nil_append] at hr3; obtain ⟨a3, c3, rfl⟩ := own_shape hr3; have hb3 := new_below ((Only.drew (fun _ => False) wx).below (Nat.le_refl _) (fun _ q => q.elim)) o3 (fun b q => (hr3.lt b q).1); have hc3 := (hb3.cell (p := ⟨r, 0, none⟩) hrx).trans hcx; have hz3 : wx.heap.size ≤ w3.heap.size := hb3.size)
              | (refine step_append_has (by rfl) _ (.tmp 91) _ (by rfl) undW infW rfl (by decide) (by rfl) (by rfl) hr3 (hu2.below hb3) (flat3_one _) (by omega) (by omega) hz3 ?_; intro v4 w4 hr4 o4 hat4; obtain ⟨a4, c4, rfl⟩ := own_shape hr4; have hb4 := new_below hb3 o4 (fun b q => (hr4.lt b q).1); have hc4 := (hb4.cell (p := ⟨r, 0, none⟩) hrx).trans hcx; have hf4 := (hb4.frozen (p := ⟨r, 0, none⟩) hrx).trans hfx))
          all_goals
            rw [hlist.out] at hr4
            go_wp2_with fail
            go_meet
            exact ⟨_, w4, hb4, by rw [← hlen.out]; exact hr4, rfl, rfl, rfl, rfl⟩
        case rest =>
          obtain ⟨v5, w5, hb5, hr5, hlk⟩ := hcut
          have hat5 : ∀ b, v5.ownBlock = some b → wx.heap.size ≤ b := fun b q => (hr5.lt b q).1
          obtain ⟨h6, o6⟩ := H3.out.setL (⟨hb5.os, hb5.tape, hb5.output, hb5.size, fun b hb _ => hb5.block b hb⟩ : Only (fun _ => False) wx w5) (row_lower hr5 (Nat.zero_le _)) hat5 hlk
          have hgb : ¬ G bo := fun q => by have := HH.out.glt bo q; have := HBO.out; omega
          have y0' := (o6.cell (p := ⟨bo, 0, none⟩) hbx hgb).trans y0
          have y1' := (o6.cell (p := ⟨bo, 1, none⟩) hbx hgb).trans y1
          have hbc : bo < wc.heap.size := Nat.lt_of_lt_of_le hbx o6.size
          have HO : Hid (Only G w wc) := hide ((⟨bx.os, bx.tape, bx.output, by have := bx.size; have := HBO.out; omega, fun b hb _ => bx.block b (by have := HBO.out; omega)⟩ : Only G w wx).trans o6)
          have HA := hide (show ∀ b, v5.ownBlock = some b → w.heap.size ≤ b from fun b q => by have := hat5 b q; have := bx.size; have := HBO.out; omega)
          obtain ⟨l, hl⟩ : ∃ l, l = S.eraseIdx i := ⟨_, rfl⟩
          rw [← hl] at h6
          have hll : l.length ≤ 1000000 := by rw [hl, List.length_eraseIdx, if_pos hi]; have := HN.out; omega
          have HL := hide hl
          obtain ⟨a5, c5, rfl⟩ := own_shape h6.row
          have hcl6 := h6.cl
          have hfr6 := h6.free 0
          have hr6 := h6.glt r h6.gr
          have hrow6 := Has.own h6.row
          have H6 := hide h6
          clear hl hlk hr5 hb5 h6 o6 y0 y1 hbx bx hcx hfx hrx hs1 hs3 hu1 hu2 hat5 H3 hadd
          obtain ⟨sk, hsk⟩ : ∃ sk, sk = S[i].k := ⟨_, rfl⟩
          obtain ⟨sv, hsv⟩ : ∃ sv, sv = S[i].v := ⟨_, rfl⟩
          rw [← hsk] at y0'
          rw [← hsv] at y1'
          have HSK := hide hsk
          have HSV := hide hsv
          clear hsk hsv
          go_wp2_with (at_builtin; refine wpList_append_has rfl _ _ _ rfl undW infW rfl (by decide) rfl rfl (own_new _ #[.int .i64 k, .int .i64 v, .int .i64 0] _) (hrow6.alloc _) (flat3_one _) (by omega) (by omega) (by simp) ?_; intro v7 w7 hr7 o7 hat7; obtain ⟨a7, c7, rfl⟩ := own_shape hr7; have hb7 := new_below ((Only.alloc (fun _ => False) wc _).below (Nat.le_refl _) (fun _ q => q.elim)) o7 (fun b q => (hr7.lt b q).1); have hc7 := (hb7.cell (p := ⟨r, 0, none⟩) hr6).trans hcl6; have hf7 := (hb7.frozen (p := ⟨r, 0, none⟩) hr6).trans hfr6; have q07 : (w7.setCell ⟨r, 0, none⟩ (.slice a7 (1 + l.length) c7)).cell? ⟨bo, 0, none⟩ = some (.int .i64 sk) := (cell_set_ne _ (fun q => HNE.out (congrArg Addr.block q))).trans ((hb7.cell (p := ⟨bo, 0, none⟩) hbc).trans y0'); have q17 : (w7.setCell ⟨r, 0, none⟩ (.slice a7 (1 + l.length) c7)).cell? ⟨bo, 1, none⟩ = some (.int .i64 sv) := (cell_set_ne _ (fun q => HNE.out (congrArg Addr.block q))).trans ((hb7.cell (p := ⟨bo, 1, none⟩) hbc).trans y1'))
          have hend := front_end H6.out (Below.refl _ _) hb7 hr7 ⟨rfl, rfl, rfl, rfl⟩
          have HE := hide hend
          clear hend hc7 hf7 hb7 hr7 o7 hat7 hrow6 hcl6 hfr6 y0' y1'
          generalize (w7.setCell ⟨r, 0, none⟩ (.slice a7 (1 + l.length) c7)) = w8 at *
          go_quiet (fail)
          go_wp2_with fail
          (try simp only [Exit.inBlock, Exit.then])
          refine bodyPost_ret (results_tmp4 rfl _ _ _) rfl ?_
          obtain ⟨G', h1, h2, h3⟩ := HE.out
          have hsz := HO.out.size
          refine full_some HID.out ⟨by rw [← HSK.out, ← HSV.out]; rfl, G', ?_, ?_, fun b q => ?_⟩
          · have h4 := h1.like (w' := w8.drewN nq) ⟨rfl, rfl, rfl, rfl⟩
            rw [HL.out] at h4
            rw [HW.out]
            exact h4
          · refine Only.then (S := G) HO.out (h2.trans (Like.only (w' := w8.drewN nq) (w := w8) ⟨rfl, rfl, rfl, rfl⟩ _)) fun b q => ?_
            exact q.elim .inl (fun q => .inr (HA.out b q))
          · rcases h3 b q with (e | e) | e
            · exact .inl e
            · exact .inr (HA.out b e)
            · exact .inr (by omega)
      · have hd2 : decide ((0 : Int) < S[i].pins) = true := by simp; omega
        have hno2 := hide (show ∀ q, i ≤ q → (hq : q < S.length) → S[q].pins ≠ 0 from fun q h1 h2 => by
          by_cases e : q = i
          · subst e; exact h0
          · exact HNO.out q (by omega) h2)
        clear h0 d0 d1
        generalize S[i].pins = pi at *
        go_wp2_with fail
        go_roundw
        case rel => exact ⟨i, by omega, rfl, hno2.out, trivial⟩
        case measure => simp [intOf]

theorem put_any (h : Is G w r S room) (hn : S.length ≤ 1000000) (hp : ∀ s ∈ S, 0 ≤ s.pins) (hnd : (S.map (·.k)).Nodup) (hle : (S.length : Int) ≤ room) (k v : Int) :
    Calls Tryz.prog 9 #[.pointer (some ⟨r, 0, none⟩), .int .i64 k, .int .i64 v] w fun e w' => ∃ G', e = .returned (.tuple #[.int .i64 (II.keyG (putS room S k v).2.1), .int .i64 (II.valG (putS room S k v).2.1), .bool (putS room S k v).2.1.isSome, .bool (putS room S k v).2.2]) ∧
      Is G' w' r (putS room S k v).1 room ∧ Only G w w' ∧ ∀ b, G' b → G b ∨ w.heap.size ≤ b := by
  rcases idx_slot hnd k with ⟨i, hi, hx, hs, hk, hw⟩ | ⟨hx, hs⟩
  · have e : putS room S k v = ({ S[i] with v := v } :: S.eraseIdx i, none, true) := by simp [putS, hs, hw]
    rw [e]
    exact (put_hit h hn hi hx).mono fun e' w' ⟨q1, G', q2, q3, q4⟩ => ⟨G', q1, q2, q3, q4⟩
  · by_cases h1 : room ≤ (S.length : Int)
    · refine (put_full h hn hp hnd hx h1).mono fun e' w' q => ?_
      unfold FullPost at q
      cases hi : idleS S with
      | none =>
        rw [hi] at q
        have e : putS room S k v = (S, none, false) := by
          simp [putS, hs, hi, h1]
        rw [e]
        exact ⟨G, q.1, q.2.1, q.2.2, fun b q => .inl q⟩
      | some x =>
        rw [hi] at q
        have h0 : room ≠ 0 := fun e => by
          have : S = [] := List.eq_nil_of_length_eq_zero (by omega)
          rw [this] at hi; cases hi
        have e : putS room S k v = (⟨k, v, 0⟩ :: without S x.k, some x, true) := by
          simp [putS, hs, hi, h1, h0]
        rw [e]
        obtain ⟨q1, G', q2, q3, q4⟩ := q
        exact ⟨G', q1, q2, q3, q4⟩
    · have h0 : room ≠ 0 := by omega
      have e : putS room S k v = (⟨k, v, 0⟩ :: S, none, true) := by
        simp [putS, hs, h1, h0]
      rw [e]
      exact (put_room h hn hx (by omega)).mono fun e' w' ⟨q1, G', q2, q3, q4⟩ => ⟨G', q1, q2, q3, q4⟩

end
end RL
end Go.Proofs.YtdgnfdheofacgaaGreat
