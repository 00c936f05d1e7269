/- A heap of package heap in memory, of no program: the slice of pointers, the items, the map of ids ('HeapAt'), and what the code's steps make of them. -/
import Derived.Test.YtmneilbfpomobaaGreatRow
import Derived.Test.YtmneilbfpomobaaGreatHeapS
namespace Go.Proofs.YtmneilbfpomobaaGreat
open Go.MapKept Go.RowKit

/-- a pointer to a block's begin -/
abbrev ptrB (b : Nat) : Value := .pointer (some ⟨b, 0, none⟩)

section
variable {β : Type} (V : β → Value) (E : TypeId)

structure ItAt (w : World) (x : It β) (p : Int) : Prop where
  at_ : w.cell? ⟨x.b, 0, none⟩ = some (.int .i64 x.at_)
  id : w.cell? ⟨x.b, 1, none⟩ = some (.int .i64 x.id)
  val : w.cell? ⟨x.b, 2, none⟩ = some (V x.v)
  place : w.cell? ⟨x.b, 3, none⟩ = some (.int .i64 p)
  free : ∀ o, w.frozen? ⟨x.b, o, none⟩ = false

structure HeapAt (F : Nat → Prop) (w : World) (c : Nat) (v : Value) (n : Nat) (a : Nat → It β) (R : List (It β)) (last : Int) : Prop where
  its : Items a n R
  sl : w.cell? ⟨c, 0, none⟩ = some v
  row : w.ownsRow 0 E 1 v n ((List.range n).map fun k => ptrB (a k).b)
  own : ∀ g, v.ownBlock = some g → F g ∧ g ≠ c ∧ ∀ x ∈ R, g ≠ x.b
  mp : (w.cell? ⟨c, 1, none⟩ = some (.map none) ∧ R = []) ∨ ∃ M f, w.cell? ⟨c, 1, none⟩ = some (.map (some M)) ∧ MapIs (.int .i64) w M f n ∧ F M ∧ ∀ kv u, f kv = some u ↔ ∃ x ∈ R, Value.int .i64 x.id = kv ∧ ptrB x.b = u
  last : w.cell? ⟨c, 2, none⟩ = some (.int .i64 last)
  free : ∀ o, w.frozen? ⟨c, o, none⟩ = false
  items : ∀ k, k < n → ItAt V w (a k) k
  inj : ∀ x ∈ R, ∀ y ∈ R, x.b = y.b → x = y
  ne : ∀ x ∈ R, x.b ≠ c
  fc : F c
  fi : ∀ x ∈ R, F x.b
  flt : ∀ b, F b → b < w.heap.size

variable {V E}
variable {F : Nat → Prop} {w : World} {c : Nat} {v : Value} {n : Nat} {a : Nat → It β} {R : List (It β)} {last : Int}

theorem ItAt.of_heap {w' : World} {x : It β} {p : Int} (h : ItAt V w x p) (hb : w'.heap[x.b]? = w.heap[x.b]?) : ItAt V w' x p := by
  have e : ∀ o, w'.cell? ⟨x.b, o, none⟩ = w.cell? ⟨x.b, o, none⟩ := fun o => World.cell?_of_block (w := w) hb
  have f : ∀ o, w'.frozen? ⟨x.b, o, none⟩ = w.frozen? ⟨x.b, o, none⟩ := fun o => World.frozen?_of_block (w := w) hb
  exact ⟨(e _).trans h.at_, (e _).trans h.id, (e _).trans h.val, (e _).trans h.place, fun o => (f o).trans (h.free o)⟩

/-- The place is written. -/
theorem ItAt.set {x : It β} {p : Int} (h : ItAt V w x p) (q : Int) : ItAt V (w.setCell ⟨x.b, 3, none⟩ (.int .i64 q)) x q := by
  have e : ∀ o, o ≠ 3 → (w.setCell ⟨x.b, 3, none⟩ (.int .i64 q)).cell? ⟨x.b, o, none⟩ = w.cell? ⟨x.b, o, none⟩ := fun o _ => cell_set_ne _ (by simp)
  exact ⟨(e _ (by omega)).trans h.at_, (e _ (by omega)).trans h.id, (e _ (by omega)).trans h.val, World.cell?_setCell_same _ _ _ h.place, fun o => (World.frozen?_setCell ..).trans (h.free o)⟩

theorem HeapAt.kept {S : Nat → Prop} {w' : World} (h : HeapAt V E F w c v n a R last) (hk : Only S w w') (hs : ∀ b, F b → ¬ S b) : HeapAt V E F w' c v n a R last := by
  have hb : ∀ b, F b → w'.heap[b]? = w.heap[b]? := fun b q => hk.block b (h.flt b q) (hs b q)
  have e : ∀ o, w'.cell? ⟨c, o, none⟩ = w.cell? ⟨c, o, none⟩ := fun o => World.cell?_of_block (w := w) (hb c h.fc)
  refine ⟨h.its, (e _).trans h.sl, ownsRow_only h.row hk (fun b q => hs b (h.own b q).1), h.own, ?_, (e _).trans h.last, fun o => (World.frozen?_of_block (w := w) (hb c h.fc)).trans (h.free o), fun k hk => (h.items k hk).of_heap (hb _ (h.fi _ (h.its.mem.2 ⟨k, hk, rfl⟩))), h.inj, h.ne, h.fc, h.fi, fun b q => Nat.lt_of_lt_of_le (h.flt b q) hk.size⟩
  rcases h.mp with ⟨q, r⟩ | ⟨M, f, q, hm, hM, r⟩
  · exact .inl ⟨(e _).trans q, r⟩
  · exact .inr ⟨M, f, (e _).trans q, hm.of_block (hb M hM), hM, r⟩

theorem HeapAt.like {w' : World} (h : HeapAt V E F w c v n a R last) (hk : Like w' w) : HeapAt V E F w' c v n a R last :=
  h.kept (hk.only (fun _ => False)) (fun _ _ q => q)
theorem HeapAt.drew (h : HeapAt V E F w c v n a R last) : HeapAt V E F w.drew c v n a R last := h.like ⟨rfl, rfl, rfl, rfl⟩
theorem HeapAt.alloc (h : HeapAt V E F w c v n a R last) (o : Obj) : HeapAt V E F (w.alloc o) c v n a R last := h.kept (Only.alloc (fun _ => False) w o) (fun _ _ q => q)

theorem HeapAt.lt (h : HeapAt V E F w c v n a R last) : c < w.heap.size := h.flt c h.fc

/-- Where there is an item, the slice leads to a row. -/
theorem HeapAt.form (h : HeapAt V E F w c v n a R last) (hn : 0 < n) : ∃ g cap, v = .slice (some ⟨g, 0, none⟩) n cap := own_form h.row hn

/-- The cell of a place. -/
theorem HeapAt.cell {g cap : Nat} (h : HeapAt V E F w c (.slice (some ⟨g, 0, none⟩) n cap) n a R last) {k : Nat} (hk : k < n) : w.cell? ⟨g, k, none⟩ = some (ptrB (a k).b) ∧ w.frozen? ⟨g, k, none⟩ = false := by
  refine ⟨?_, h.row.frozenAt k⟩
  rw [h.row.cellAt k (by omega), List.getElem?_map, List.getElem?_range hk]; rfl

theorem HeapAt.mem (h : HeapAt V E F w c v n a R last) {k : Nat} (hk : k < n) : a k ∈ R := h.its.mem.2 ⟨k, hk, rfl⟩

theorem set_range (a : Nat → It β) (n i j : Nat) (hi : i < n) (hj : j < n) : ((((List.range n).map fun k => ptrB (a k).b).set i (ptrB (a j).b)).set j (ptrB (a i).b)) = (List.range n).map fun k => ptrB (swapA a i j k).b := by
  apply List.ext_getElem?
  intro k
  by_cases hk : k < n
  · rw [List.getElem?_set, List.getElem?_set, List.getElem?_map, List.getElem?_map, List.getElem?_range hk]
    simp only [List.length_set, List.length_map, List.length_range, hi, hj, if_true, Option.map_some, swapA]
    by_cases e1 : j = k
    · subst e1
      by_cases e2 : j = i
      · subst e2; simp
      · simp [e2]
    · by_cases e2 : i = k
      · subst e2; simp [e1]
      · simp [e1, e2, Ne.symm e1, Ne.symm e2]
  · rw [List.getElem?_eq_none (by simp; omega), List.getElem?_eq_none (by simp; omega)]

/-- What swap asks of the memory, and what it leaves. -/
theorem HeapAt.swap {g cap : Nat} (h : HeapAt V E F w c (.slice (some ⟨g, 0, none⟩) n cap) n a R last) {i j : Nat} (hi : i < n) (hj : j < n) {w' : World}
    (hw : Like w' ((((w.setCell ⟨g, i, none⟩ (ptrB (a j).b)).setCell ⟨g, j, none⟩ (ptrB (a i).b)).setCell ⟨(a j).b, 3, none⟩ (.int .i64 i)).setCell ⟨(a i).b, 3, none⟩ (.int .i64 j))) :
    HeapAt V E F w' c (.slice (some ⟨g, 0, none⟩) n cap) n (swapA a i j) R last ∧ Only F w w' := by
  obtain ⟨hgF, hgc, hgR⟩ := h.own g rfl
  have hai := h.mem hi
  have haj := h.mem hj
  have hgi := hgR _ hai
  have hgj := hgR _ haj
  -- the two stores into the row
  obtain ⟨r1, _⟩ := h.row.stored i (ptrB (a j).b)
  obtain ⟨r2, _⟩ := r1.stored j (ptrB (a i).b)
  rw [set_range a n i j hi hj] at r2
  have ci := (h.cell hi).1
  have cj := (h.cell hj).1
  have cj1 : ∃ u, (w.setCell ⟨g, i, none⟩ (ptrB (a j).b)).cell? ⟨g, j, none⟩ = some u := by
    rw [cell_set _ ci]
    by_cases e : (⟨g, j, none⟩ : Addr) = ⟨g, i, none⟩
    · exact ⟨_, if_pos e⟩
    · exact ⟨_, (if_neg e).trans cj⟩
  obtain ⟨u, hu⟩ := cj1
  obtain ⟨w2, hw2⟩ : ∃ w2, w2 = (w.setCell ⟨g, i, none⟩ (ptrB (a j).b)).setCell ⟨g, j, none⟩ (ptrB (a i).b) := ⟨_, rfl⟩
  rw [← hw2] at hw r2
  have o2 : Only (fun b => b = g) w w2 := by
    rw [hw2]; exact (Only.setCell (S := fun b => b = g) w rfl _).trans (Only.setCell (S := fun b => b = g) _ rfl _)
  have b2 : ∀ b, b ≠ g → w2.heap[b]? = w.heap[b]? := fun b hb => by
    rw [hw2, RowKit.Below.heap_setCell _ _ _ _ hb, RowKit.Below.heap_setCell _ _ _ _ hb]
  have it2 : ∀ k, k < n → ItAt V w2 (a k) k := fun k hk => (h.items k hk).of_heap (b2 _ (Ne.symm (hgR _ (h.mem hk))))
  -- the two stores into the items
  have b4 : ∀ b, b ≠ (a i).b → b ≠ (a j).b → w'.heap[b]? = w2.heap[b]? := fun b h1 h2 => by
    rw [hw.heap, RowKit.Below.heap_setCell _ _ _ _ h1, RowKit.Below.heap_setCell _ _ _ _ h2]
  have o4 : Only F w2 w' := ((Only.setCell (S := F) w2 (a := ⟨(a j).b, 3, none⟩) (h.fi _ haj) (.int .i64 i)).trans (Only.setCell (S := F) _ (a := ⟨(a i).b, 3, none⟩) (h.fi _ hai) (.int .i64 j))).trans (hw.only F)
  have oall : Only F w w' := (o2.mono fun b _ e => e ▸ hgF).trans o4
  have hbc : w'.heap[c]? = w.heap[c]? := (b4 c (Ne.symm (h.ne _ hai)) (Ne.symm (h.ne _ haj))).trans (b2 c (Ne.symm hgc))
  have ec : ∀ o, w'.cell? ⟨c, o, none⟩ = w.cell? ⟨c, o, none⟩ := fun o => World.cell?_of_block (w := w) hbc
  have itj : ItAt V w' (a j) i := by
    have h3 := (it2 j hj).set i
    by_cases e : (a i).b = (a j).b
    · have hij : i = j := h.its.inj hi hj (congrArg _ (h.inj _ hai _ haj e))
      subst hij
      exact (h3.set i).of_heap (by rw [hw.heap])
    · exact h3.of_heap (by rw [hw.heap, RowKit.Below.heap_setCell _ _ _ _ (Ne.symm e)])
  have iti : ItAt V w' (a i) j := by
    by_cases e : (a i).b = (a j).b
    · have hij : i = j := h.its.inj hi hj (congrArg _ (h.inj _ hai _ haj e))
      subst hij
      exact itj
    · have h3 : ItAt V (w2.setCell ⟨(a j).b, 3, none⟩ (.int .i64 i)) (a i) i := (it2 i hi).of_heap (RowKit.Below.heap_setCell _ _ _ _ e)
      exact (h3.set j).of_heap (by rw [hw.heap])
  refine ⟨⟨h.its.swap hi hj, (ec 0).trans h.sl, ownsRow_only r2 (S := fun b => b = (a i).b ∨ b = (a j).b) ?_ ?_, h.own, ?_, (ec 2).trans h.last, fun o => (World.frozen?_of_block (w := w) hbc).trans (h.free o), ?_, h.inj, h.ne, h.fc, h.fi, fun b q => Nat.lt_of_lt_of_le (h.flt b q) oall.size⟩, oall⟩
  · exact ((Only.setCell (S := fun b => b = (a i).b ∨ b = (a j).b) w2 (a := ⟨(a j).b, 3, none⟩) (.inr rfl) (.int .i64 i)).trans (Only.setCell (S := fun b => b = (a i).b ∨ b = (a j).b) _ (a := ⟨(a i).b, 3, none⟩) (.inl rfl) (.int .i64 j))).trans (hw.only _)
  · intro b q r
    cases q
    rcases r with r | r
    · exact hgi r
    · exact hgj r
  · rcases h.mp with ⟨q, r⟩ | ⟨M, f, q, hm, hM, r⟩
    · exact .inl ⟨(ec 1).trans q, r⟩
    · refine .inr ⟨M, f, (ec 1).trans q, hm.of_block ?_, hM, r⟩
      have e1 : M ≠ g := fun e => by rw [← e, hm.noCell] at ci; cases ci
      have e2 : ∀ k, k < n → M ≠ (a k).b := fun k hk e => by
        have := (h.items k hk).at_
        rw [← e, hm.noCell] at this; cases this
      exact (b4 M (e2 i hi) (e2 j hj)).trans (b2 M e1)
  · intro k hk
    by_cases e1 : k = i
    · subst e1
      have : swapA a k j k = a j := by simp [swapA]
      rw [this]; exact itj
    · by_cases e2 : k = j
      · subst e2
        have : swapA a i k k = a i := by simp [swapA, e1]
        rw [this]; exact iti
      · have : swapA a i j k = a k := by simp [swapA, e1, e2]
        rw [this]
        refine (it2 k hk).of_heap (b4 _ ?_ ?_)
        · exact fun e => e1 (h.its.inj hk hi (congrArg _ (h.inj _ (h.mem hk) _ hai e)))
        · exact fun e => e2 (h.its.inj hk hj (congrArg _ (h.inj _ (h.mem hk) _ haj e)))

end
end Go.Proofs.YtmneilbfpomobaaGreat
