/- A heap of package heap in memory, second part, of no program: what Put and Cancel make of it; the heap as a list of what waits, sorted ('HeapIs'). -/
import Derived.Test.YtmneilbfpomobaaGreatHeapM
import Derived.WalkSmall
namespace Go.Proofs.YtmneilbfpomobaaGreat
open Go.MapKept Go.RowKit

section
variable {β : Type} {V : β → Value} {E : TypeId}
variable {F : Nat → Prop} {w : World} {c : Nat} {v : Value} {n : Nat} {a : Nat → It β} {R : List (It β)} {last : Int}

/-- The items in another order. -/
theorem HeapAt.perm {R' : List (It β)} (h : HeapAt V E F w c v n a R last) (hp : R.Perm R') : HeapAt V E F w c v n a R' last := by
  have hm : ∀ x, x ∈ R' ↔ x ∈ R := fun x => hp.mem_iff.symm
  refine ⟨⟨h.its.perm.trans hp, (hp.map _).nodup_iff.1 h.its.ids⟩, h.sl, h.row, fun g hg => ⟨(h.own g hg).1, (h.own g hg).2.1, fun x hx => (h.own g hg).2.2 x ((hm x).1 hx)⟩, ?_, h.last, h.free, h.items, fun x hx y hy => h.inj x ((hm x).1 hx) y ((hm y).1 hy), fun x hx => h.ne x ((hm x).1 hx), h.fc, fun x hx => h.fi x ((hm x).1 hx), h.flt⟩
  rcases h.mp with ⟨q, r⟩ | ⟨M, f, q, hM, hF, r⟩
  · refine .inl ⟨q, ?_⟩
    subst r
    exact hp.symm.eq_nil
  · refine .inr ⟨M, f, q, hM, hF, fun kv u => ?_⟩
    rw [r kv u]
    exact ⟨fun ⟨x, hx, z⟩ => ⟨x, (hm x).2 hx, z⟩, fun ⟨x, hx, z⟩ => ⟨x, (hm x).1 hx, z⟩⟩

/-- The number of the last one is written. -/
theorem HeapAt.setLast (h : HeapAt V E F w c v n a R last) (l : Int) : HeapAt V E F (w.setCell ⟨c, 2, none⟩ (.int .i64 l)) c v n a R l ∧ Only F w (w.setCell ⟨c, 2, none⟩ (.int .i64 l)) := by
  have o : Only (fun b => b = c) w (w.setCell ⟨c, 2, none⟩ (.int .i64 l)) := Only.setCell (S := fun b => b = c) w rfl _
  have hb : ∀ b, b ≠ c → (w.setCell ⟨c, 2, none⟩ (.int .i64 l)).heap[b]? = w.heap[b]? := fun b hb => RowKit.Below.heap_setCell _ _ _ _ hb
  have e : ∀ o, o ≠ 2 → (w.setCell ⟨c, 2, none⟩ (.int .i64 l)).cell? ⟨c, o, none⟩ = w.cell? ⟨c, o, none⟩ := fun o _ => cell_set_ne _ (by simp)
  refine ⟨⟨h.its, (e 0 (by omega)).trans h.sl, ownsRow_only h.row o (fun b q => (h.own b q).2.1), h.own, ?_, World.cell?_setCell_same _ _ _ h.last, fun o => (World.frozen?_setCell ..).trans (h.free o), fun k hk => (h.items k hk).of_heap (hb _ (h.ne _ (h.mem hk))), h.inj, h.ne, h.fc, h.fi, fun b q => by simpa using h.flt b q⟩, o.mono fun b _ q => q ▸ h.fc⟩
  rcases h.mp with ⟨q, r⟩ | ⟨M, f, q, hM, hF, r⟩
  · exact .inl ⟨(e 1 (by omega)).trans q, r⟩
  · exact .inr ⟨M, f, (e 1 (by omega)).trans q, hM.setCell h.last _, hF, r⟩

/-- The map is made. -/
theorem HeapAt.mkMap (h : HeapAt V E F w c v n a [] last) (hq : w.cell? ⟨c, 1, none⟩ = some (.map none)) :
    HeapAt V E (fun b => F b ∨ b = w.heap.size) ((w.alloc (.map #[] 0)).setCell ⟨c, 1, none⟩ (.map (some w.heap.size))) c v n a [] last ∧ Only F w ((w.alloc (.map #[] 0)).setCell ⟨c, 1, none⟩ (.map (some w.heap.size))) ∧
      ((w.alloc (.map #[] 0)).setCell ⟨c, 1, none⟩ (.map (some w.heap.size))).cell? ⟨c, 1, none⟩ = some (.map (some w.heap.size)) := by
  have h1 := h.alloc (.map #[] 0)
  have hq1 : (w.alloc (.map #[] 0)).cell? ⟨c, 1, none⟩ = some (.map none) := cell_alloc _ hq
  obtain ⟨w1, hw1⟩ : ∃ w1, w1 = w.alloc (.map #[] 0) := ⟨_, rfl⟩
  have hm : MapIs (.int .i64) w1 w.heap.size (fun _ => none) 0 := by rw [hw1]; exact MapIs.made w
  have o1 : Only F w w1 := by rw [hw1]; exact Only.alloc F w _
  have hsz : w1.heap.size = w.heap.size + 1 := by rw [hw1]; simp
  rw [← hw1] at h1 hq1 ⊢
  generalize w.heap.size = N at *
  have o : Only (fun b => b = c) w1 (w1.setCell ⟨c, 1, none⟩ (.map (some N))) := Only.setCell (S := fun b => b = c) w1 rfl _
  have hb : ∀ b, b ≠ c → (w1.setCell ⟨c, 1, none⟩ (.map (some N))).heap[b]? = w1.heap[b]? := fun b hb => RowKit.Below.heap_setCell _ _ _ _ hb
  have e : ∀ o, o ≠ 1 → (w1.setCell ⟨c, 1, none⟩ (.map (some N))).cell? ⟨c, o, none⟩ = w1.cell? ⟨c, o, none⟩ := fun o _ => cell_set_ne _ (by simp)
  have hn : n = 0 := by have := h.its.len; simpa using this.symm
  have es : w1.setCell ⟨c, 1, none⟩ (.map (some N)) = w1.setCell ⟨c, 1, none⟩ (.map (some N)) := rfl
  refine ⟨⟨h.its, (e 0 (by omega)).trans h1.sl, ownsRow_only h1.row o (fun b q => (h1.own b q).2.1), fun g hg => ⟨.inl (h1.own g hg).1, (h1.own g hg).2⟩, .inr ⟨N, fun _ => none, World.cell?_setCell_same _ _ _ hq1, ?_, .inr rfl, by simp⟩, (e 2 (by omega)).trans h1.last, fun o => (World.frozen?_setCell ..).trans (h1.free o), fun k hk => by omega, h.inj, h.ne, .inl h.fc, fun x hx => (by cases hx), ?_⟩, o1.trans (o.mono fun b _ q => q ▸ h.fc), World.cell?_setCell_same _ _ _ hq1⟩
  · rw [hn]; exact hm.setCell hq1 _
  · rintro b (q | rfl)
    · simpa using h1.flt b q
    · simp; omega

/-- A new item comes last: behind the append, the store of the slice, the entry of the map. -/
theorem HeapAt.push {w1 : World} {v' : Value} {M : Nat} {f : Value → Option Value} {ob : Obj} {x : It β} (h : HeapAt V E F w c v n a R last) (hx : ItAt V w x n) (hxF : ¬ F x.b) (hxid : ∀ y ∈ R, y.id ≠ x.id)
    (hM : w.cell? ⟨c, 1, none⟩ = some (.map (some M)))
    (hrow : w1.ownsRow 0 E 1 v' (n + 1) (((List.range n).map fun k => ptrB (a k).b) ++ [ptrB x.b])) (ho : Only (fun b => v.ownBlock = some b) w w1) (hloc : ∀ b, v'.ownBlock = some b → v.ownBlock = some b ∨ w.heap.size ≤ b)
    (hm : MapIs (.int .i64) w M f n) (hlook : ∀ kv u, f kv = some u ↔ ∃ x ∈ R, Value.int .i64 x.id = kv ∧ ptrB x.b = u)
    (hmap : MapIs (.int .i64) (setMap (w1.setCell ⟨c, 0, none⟩ v') M ob) M (upd f (.int .i64 x.id) (some (ptrB x.b))) (if (f (.int .i64 x.id)).isSome then n else n + 1)) :
    HeapAt V E (fun b => F b ∨ b = x.b ∨ v'.ownBlock = some b) (setMap (w1.setCell ⟨c, 0, none⟩ v') M ob) c v' (n + 1) (fun k => if k = n then x else a k) (x :: R) last ∧
      Only F w (setMap (w1.setCell ⟨c, 0, none⟩ v') M ob) := by
  have hfx : f (.int .i64 x.id) = none := by
    cases q : f (.int .i64 x.id) with
    | none => rfl
    | some u =>
      obtain ⟨y, hy, e, _⟩ := (hlook _ _).1 q
      simp only [Value.int.injEq, true_and] at e
      exact absurd e (hxid y hy)
  rw [hfx] at hmap
  have hFM : F M := by
    rcases h.mp with ⟨q, _⟩ | ⟨M', f', q, _, hF', _⟩
    · rw [hM] at q; cases q
    · rw [hM] at q; cases q; exact hF'
  have hcM : c ≠ M := hm.ne hM
  have hxc : x.b ≠ c := fun e => hxF (e ▸ h.fc)
  have hxM : x.b ≠ M := fun e => hxF (e ▸ hFM)
  have hxv : ∀ b, v.ownBlock = some b → b ≠ x.b := fun b q e => hxF (e ▸ (h.own b q).1)
  have hxlt : x.b < w.heap.size := lt_of_cell hx.at_
  have c1 := ho.cell (p := ⟨c, 0, none⟩) h.lt (fun q => (h.own c q).2.1 rfl)
  have c1' : w1.cell? ⟨c, 0, none⟩ = some v := c1.trans h.sl
  -- what stays of the old blocks
  have ob1 : ∀ b, b < w.heap.size → v.ownBlock ≠ some b → b ≠ c → b ≠ M → (setMap (w1.setCell ⟨c, 0, none⟩ v') M ob).heap[b]? = w.heap[b]? := by
    intro b hb hv hbc hbM
    have e1 : (setMap (w1.setCell ⟨c, 0, none⟩ v') M ob).heap[b]? = (w1.setCell ⟨c, 0, none⟩ v').heap[b]? := by simp [setMap, Ne.symm hbM]
    rw [e1, RowKit.Below.heap_setCell _ _ _ _ hbc]
    exact ho.block b hb hv
  have ec : ∀ o, o ≠ 0 → (setMap (w1.setCell ⟨c, 0, none⟩ v') M ob).cell? ⟨c, o, none⟩ = w.cell? ⟨c, o, none⟩ := fun o h0 => by
    rw [cell_setMap _ hcM, cell_set_ne _ (by simp)]
    exact ho.cell (p := ⟨c, o, none⟩) h.lt (fun q => (h.own c q).2.1 rfl)
  have ef : ∀ o, (setMap (w1.setCell ⟨c, 0, none⟩ v') M ob).frozen? ⟨c, o, none⟩ = false := fun o => by
    rw [frozen_setMap _ hcM, World.frozen?_setCell]
    exact (ho.frozen (p := ⟨c, o, none⟩) h.lt (fun q => (h.own c q).2.1 rfl)).trans (h.free o)
  have hitem : ∀ k, k < n → ItAt V (setMap (w1.setCell ⟨c, 0, none⟩ v') M ob) (a k) k := fun k hk => by
    have hr := h.mem hk
    refine (h.items k hk).of_heap (ob1 _ (lt_of_cell (h.items k hk).at_) (fun q => (h.own _ q).2.2 _ hr rfl) (h.ne _ hr) (hm.ne (h.items k hk).at_))
  have hsz : w.heap.size ≤ (setMap (w1.setCell ⟨c, 0, none⟩ v') M ob).heap.size := by simp; exact ho.size
  have hvnew : ∀ b, v'.ownBlock = some b → b ≠ c ∧ b ≠ M ∧ b ≠ x.b ∧ ∀ y ∈ R, b ≠ y.b := by
    intro b q
    rcases hloc b q with r | r
    · refine ⟨(h.own b r).2.1, fun e => ?_, hxv b r, (h.own b r).2.2⟩
      obtain ⟨_, hlt⟩ := h.row.lt b r
      have hrow2 := h.row
      rcases hrow2.2 with ⟨rfl, _⟩ | ⟨g, cap, cur, rfl, _, hh, _⟩
      · cases r
      · cases r
        obtain ⟨es, k, hb, _⟩ := hm
        rw [← e] at hb
        rw [hb] at hh; cases hh
    · refine ⟨fun e => ?_, fun e => ?_, fun e => ?_, fun y hy e => ?_⟩
      · have := h.lt; omega
      · have := hm.lt; omega
      · omega
      · have := h.flt _ (h.fi y hy); omega
  refine ⟨⟨h.its.push x hxid, ?_, ?_, ?_, .inr ⟨M, _, (ec 1 (by omega)).trans hM, hmap, .inl hFM, ?_⟩, (ec 2 (by omega)).trans h.last, ef, ?_, ?_, ?_, .inl h.fc, ?_, ?_⟩, ?_⟩
  · rw [cell_setMap _ hcM]; exact World.cell?_setCell_same _ _ _ c1'
  · have hr : ((List.range (n + 1)).map fun k => ptrB ((fun k => if k = n then x else a k) k).b) = ((List.range n).map fun k => ptrB (a k).b) ++ [ptrB x.b] := by
      rw [List.range_succ, List.map_append, List.map_cons, List.map_nil]
      simp only [if_true]
      congr 1
      exact List.map_congr_left fun k hk => by
        have := List.mem_range.1 hk
        rw [if_neg (by omega)]
    rw [hr]
    refine ownsRow_only hrow (S := fun b => b = c ∨ b = M) ((Only.setCell (S := fun b => b = c ∨ b = M) w1 (a := ⟨c, 0, none⟩) (.inl rfl) v').trans (Only.setMap (S := fun b => b = c ∨ b = M) _ (.inr rfl) ob)) ?_
    intro b q r
    rcases r with r | r
    · exact (hvnew b q).1 r
    · exact (hvnew b q).2.1 r
  · intro g hg
    refine ⟨.inr (.inr hg), (hvnew g hg).1, fun y hy => ?_⟩
    rcases List.mem_cons.1 hy with rfl | hy
    · exact (hvnew g hg).2.2.1
    · exact (hvnew g hg).2.2.2 y hy
  · intro kv u
    by_cases e : kv = .int .i64 x.id
    · subst e
      rw [upd_same]
      constructor
      · intro q; cases q; exact ⟨x, by simp, rfl, rfl⟩
      · rintro ⟨y, hy, q1, q2⟩
        rcases List.mem_cons.1 hy with rfl | hy
        · rw [q2]
        · simp only [Value.int.injEq, true_and] at q1
          exact absurd q1 (hxid y hy)
    · rw [upd_ne _ _ e, hlook kv u]
      constructor
      · rintro ⟨y, hy, q⟩; exact ⟨y, by simp [hy], q⟩
      · rintro ⟨y, hy, q1, q2⟩
        rcases List.mem_cons.1 hy with rfl | hy
        · exact absurd q1.symm e
        · exact ⟨y, hy, q1, q2⟩
  · intro k hk
    by_cases e : k = n
    · subst e
      simp only [if_true]
      exact hx.of_heap (ob1 _ hxlt (fun q => hxv _ q rfl) hxc hxM)
    · simp only [if_neg e]; exact hitem k (by omega)
  · intro y hy z hz e
    rcases List.mem_cons.1 hy with hy' | hy'
    · rcases List.mem_cons.1 hz with hz' | hz'
      · rw [hy', hz']
      · rw [hy'] at e
        exact absurd (e ▸ h.fi z hz') hxF
    · rcases List.mem_cons.1 hz with hz' | hz'
      · rw [hz'] at e
        exact absurd (e ▸ h.fi y hy') hxF
      · exact h.inj y hy' z hz' e
  · intro y hy
    rcases List.mem_cons.1 hy with rfl | hy
    · exact hxc
    · exact h.ne y hy
  · intro y hy
    rcases List.mem_cons.1 hy with rfl | hy
    · exact .inr (.inl rfl)
    · exact .inl (h.fi y hy)
  · rintro b (q | rfl | q)
    · exact Nat.lt_of_lt_of_le (h.flt b q) hsz
    · exact Nat.lt_of_lt_of_le hxlt hsz
    · simpa using (hrow.lt b q).2
  · refine (ho.mono fun b _ q => (h.own b q).1).trans ((Only.setCell (S := F) w1 (a := ⟨c, 0, none⟩) h.fc v').trans (Only.setMap (S := F) _ hFM ob))

/-- The last one goes: its cell is wiped, the slice cut, its entry taken out of the map. -/
theorem HeapAt.pop {m g cap M : Nat} {f : Value → Option Value} {ob : Obj} (h : HeapAt V E F w c (.slice (some ⟨g, 0, none⟩) (m + 1) cap) (m + 1) a R last)
    (hM : w.cell? ⟨c, 1, none⟩ = some (.map (some M))) (hm : MapIs (.int .i64) w M f (m + 1)) (hlook : ∀ kv u, f kv = some u ↔ ∃ x ∈ R, Value.int .i64 x.id = kv ∧ ptrB x.b = u)
    (hmap : MapIs (.int .i64) (setMap ((w.setCell ⟨g, m, none⟩ (.pointer none)).setCell ⟨c, 0, none⟩ (.slice (some ⟨g, 0, none⟩) m cap)) M ob) M (upd f (.int .i64 (a m).id) none) (if (f (.int .i64 (a m).id)).isSome then (m + 1) - 1 else (m + 1))) :
    HeapAt V E F (setMap ((w.setCell ⟨g, m, none⟩ (.pointer none)).setCell ⟨c, 0, none⟩ (.slice (some ⟨g, 0, none⟩) m cap)) M ob) c (.slice (some ⟨g, 0, none⟩) m cap) m a (R.filter fun x => decide (x.id ≠ (a m).id)) last ∧
      Only F w (setMap ((w.setCell ⟨g, m, none⟩ (.pointer none)).setCell ⟨c, 0, none⟩ (.slice (some ⟨g, 0, none⟩) m cap)) M ob) := by
  obtain ⟨hgF, hgc, hgR⟩ := h.own g rfl
  have ham : a m ∈ R := h.mem (by omega)
  have hfx : f (.int .i64 (a m).id) = some (ptrB (a m).b) := (hlook _ _).2 ⟨a m, ham, rfl, rfl⟩
  rw [hfx] at hmap
  have hFM : F M := by
    rcases h.mp with ⟨q, _⟩ | ⟨M', f', q, _, hF', _⟩
    · rw [hM] at q; cases q
    · rw [hM] at q; cases q; exact hF'
  have hcM : c ≠ M := hm.ne hM
  have hgm := (h.cell (k := m) (by omega)).1
  have hgM : g ≠ M := hm.ne hgm
  have hsub : ∀ x, x ∈ (R.filter fun x => decide (x.id ≠ (a m).id)) → x ∈ R := fun x hx => (List.mem_filter.1 hx).1
  have hoc : Only F w (setMap ((w.setCell ⟨g, m, none⟩ (.pointer none)).setCell ⟨c, 0, none⟩ (.slice (some ⟨g, 0, none⟩) m cap)) M ob) :=
    ((Only.setCell (S := F) w (a := ⟨g, m, none⟩) hgF _).trans (Only.setCell (S := F) _ (a := ⟨c, 0, none⟩) h.fc _)).trans (Only.setMap (S := F) _ hFM ob)
  have hb : ∀ b, b ≠ g → b ≠ c → b ≠ M → (setMap ((w.setCell ⟨g, m, none⟩ (.pointer none)).setCell ⟨c, 0, none⟩ (.slice (some ⟨g, 0, none⟩) m cap)) M ob).heap[b]? = w.heap[b]? := by
    intro b h1 h2 h3
    have e1 : (setMap ((w.setCell ⟨g, m, none⟩ (.pointer none)).setCell ⟨c, 0, none⟩ (.slice (some ⟨g, 0, none⟩) m cap)) M ob).heap[b]? = ((w.setCell ⟨g, m, none⟩ (.pointer none)).setCell ⟨c, 0, none⟩ (.slice (some ⟨g, 0, none⟩) m cap)).heap[b]? := by simp [setMap, Ne.symm h3]
    rw [e1, RowKit.Below.heap_setCell _ _ _ _ h2, RowKit.Below.heap_setCell _ _ _ _ h1]
  have ec : ∀ o, o ≠ 0 → (setMap ((w.setCell ⟨g, m, none⟩ (.pointer none)).setCell ⟨c, 0, none⟩ (.slice (some ⟨g, 0, none⟩) m cap)) M ob).cell? ⟨c, o, none⟩ = w.cell? ⟨c, o, none⟩ := fun o h0 => by
    rw [cell_setMap _ hcM, cell_set_ne _ (by simp), cell_set_ne _ (by simp)]
  have c0 : ((w.setCell ⟨g, m, none⟩ (.pointer none))).cell? ⟨c, 0, none⟩ = some (.slice (some ⟨g, 0, none⟩) (m + 1) cap) := by rw [cell_set_ne _ (by simp)]; exact h.sl
  have hrow : (w.setCell ⟨g, m, none⟩ (.pointer none)).ownsRow 0 E 1 (.slice (some ⟨g, 0, none⟩) m cap) m ((List.range m).map fun k => ptrB (a k).b) := by
    obtain ⟨r1, _⟩ := h.row.stored m (.pointer none)
    have e : ((List.range (m + 1)).map fun k => ptrB (a k).b).set m (.pointer none) = ((List.range m).map fun k => ptrB (a k).b) ++ [.pointer none] := by
      rw [List.range_succ, List.map_append, List.map_cons, List.map_nil, List.set_append]
      simp
    rw [e] at r1
    exact ownsRow_pop (by simp) r1
  refine ⟨⟨h.its.drop, ?_, ?_, fun g' hg' => ?_, .inr ⟨M, upd f (.int .i64 (a m).id) none, (ec 1 (by omega)).trans hM, ?_, hFM, ?_⟩, (ec 2 (by omega)).trans h.last, ?_, ?_, fun x hx y hy => h.inj x (hsub x hx) y (hsub y hy), fun x hx => h.ne x (hsub x hx), h.fc, fun x hx => h.fi x (hsub x hx), fun b q => Nat.lt_of_lt_of_le (h.flt b q) hoc.size⟩, hoc⟩
  · rw [cell_setMap _ hcM]; exact World.cell?_setCell_same _ _ _ c0
  · refine ownsRow_only hrow (S := fun b => b = c ∨ b = M) ((Only.setCell (S := fun b => b = c ∨ b = M) _ (a := ⟨c, 0, none⟩) (.inl rfl) _).trans (Only.setMap (S := fun b => b = c ∨ b = M) _ (.inr rfl) ob)) ?_
    intro b q r
    cases q
    rcases r with r | r
    · exact hgc r
    · exact hgM r
  · cases hg'
    exact ⟨hgF, hgc, fun x hx => hgR x (hsub x hx)⟩
  · simpa using hmap
  · intro kv u
    by_cases e : kv = .int .i64 (a m).id
    · subst e
      rw [upd_same]
      constructor
      · intro q; cases q
      · rintro ⟨y, hy, q1, _⟩
        simp only [Value.int.injEq, true_and] at q1
        have := (List.mem_filter.1 hy).2
        simp [q1] at this
    · rw [upd_ne _ _ e, hlook kv u]
      constructor
      · rintro ⟨y, hy, q1, q2⟩
        refine ⟨y, List.mem_filter.2 ⟨hy, ?_⟩, q1, q2⟩
        simp only [decide_eq_true_eq]
        intro q; rw [q] at q1; exact e q1.symm
      · rintro ⟨y, hy, q⟩; exact ⟨y, hsub y hy, q⟩
  · intro o
    rw [frozen_setMap _ hcM, World.frozen?_setCell, World.frozen?_setCell]; exact h.free o
  · intro k hk
    have hr := h.mem (k := k) (by omega)
    exact (h.items k (by omega)).of_heap (hb _ (Ne.symm (hgR _ hr)) (h.ne _ hr) (hm.ne (h.items k (by omega)).at_))

end
end Go.Proofs.YtmneilbfpomobaaGreat
