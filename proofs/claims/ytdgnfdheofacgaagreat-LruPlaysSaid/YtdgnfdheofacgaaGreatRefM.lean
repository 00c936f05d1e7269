/- A reference's object in memory: a slice of structs of three ints, and a number beside it ('Ref3'). No program. -/
import Derived.Test.YtdgnfdheofacgaaGreatWords
namespace Go.Proofs.YtdgnfdheofacgaaGreat
open Go.RowKit

section
variable {α : Type} (f : α → Int × Int × Int)

/-- the cells of a list of such structs -/
def flat3 (L : List α) : List Value := L.flatMap fun x => [.int .i64 (f x).1, .int .i64 (f x).2.1, .int .i64 (f x).2.2]

variable {f}
theorem flat3_nil : flat3 f [] = [] := rfl
theorem flat3_cons (x : α) (L : List α) : flat3 f (x :: L) = .int .i64 (f x).1 :: .int .i64 (f x).2.1 :: .int .i64 (f x).2.2 :: flat3 f L := by simp [flat3]
theorem flat3_append (A B : List α) : flat3 f (A ++ B) = flat3 f A ++ flat3 f B := by simp [flat3]
theorem length_flat3 (L : List α) : (flat3 f L).length = L.length * 3 := by
  induction L with
  | nil => rfl
  | cons x L ih => rw [flat3_cons]; simp only [List.length_cons, ih]; omega
theorem flat3_take (L : List α) (k : Nat) : (flat3 f L).take (k * 3) = flat3 f (L.take k) := by
  induction k generalizing L with
  | zero => simp [flat3_nil]
  | succ k ih =>
    cases L with
    | nil => simp [flat3_nil]
    | cons x L =>
      rw [flat3_cons, List.take_succ_cons, flat3_cons, ← ih L, show (k + 1) * 3 = k * 3 + 3 by omega]
      simp [List.take_succ_cons]
theorem flat3_drop (L : List α) (k : Nat) : (flat3 f L).drop (k * 3) = flat3 f (L.drop k) := by
  induction k generalizing L with
  | zero => simp
  | succ k ih =>
    cases L with
    | nil => simp [flat3_nil]
    | cons x L =>
      rw [flat3_cons, List.drop_succ_cons, ← ih L, show (k + 1) * 3 = k * 3 + 3 by omega]
      simp
theorem flat3_one (L : List α) : ∀ c ∈ flat3 f L, c.oneCell' = true := by
  intro c hc
  simp only [flat3, List.mem_flatMap] at hc
  obtain ⟨x, _, hx⟩ := hc
  simp only [List.mem_cons, List.not_mem_nil, or_false] at hx
  rcases hx with rfl | rfl | rfl <;> rfl
theorem flat3_get {L : List α} {k : Nat} (h : k < L.length) : (flat3 f L)[k * 3]? = some (.int .i64 (f L[k]).1) ∧ (flat3 f L)[k * 3 + 1]? = some (.int .i64 (f L[k]).2.1) ∧ (flat3 f L)[k * 3 + 2]? = some (.int .i64 (f L[k]).2.2) := by
  have e : flat3 f L = flat3 f (L.take k) ++ flat3 f (L[k] :: L.drop (k + 1)) := by
    rw [← flat3_append]; congr 1
    rw [List.getElem_cons_drop, List.take_append_drop]
  have hl : (flat3 f (L.take k)).length = k * 3 := by rw [length_flat3, List.length_take, Nat.min_eq_left (by omega)]
  rw [e, flat3_cons]
  refine ⟨?_, ?_, ?_⟩ <;> rw [List.getElem?_append_right (by omega), hl] <;> simp

variable (f)
structure Ref3 (E3 : TypeId) (G : Nat → Prop) (w : World) (r : Nat) (v : Value) (L : List α) (x : Int) : Prop where
  cl : w.cell? ⟨r, 0, none⟩ = some v
  cx : w.cell? ⟨r, 1, none⟩ = some (.int .i64 x)
  free : ∀ o, w.frozen? ⟨r, o, none⟩ = false
  row : w.ownsRow 0 E3 3 v L.length (flat3 f L)
  own : ∀ g, v.ownBlock = some g → G g ∧ g ≠ r
  gr : G r
  glt : ∀ b, G b → b < w.heap.size

def RefIs (E3 : TypeId) (G : Nat → Prop) (w : World) (r : Nat) (L : List α) (x : Int) : Prop := ∃ v, Ref3 f E3 G w r v L x

variable {f} {E3 : TypeId} {G : Nat → Prop} {w : World} {r : Nat} {v : Value} {L : List α} {x : Int}

theorem Ref3.kept {S : Nat → Prop} {w' : World} (h : Ref3 f E3 G w r v L x) (hk : Only S w w') (hs : ∀ b, G b → ¬ S b) : Ref3 f E3 G w' r v L x :=
  ⟨(hk.cell (p := ⟨r, 0, none⟩) (h.glt r h.gr) (hs r h.gr)).trans h.cl, (hk.cell (p := ⟨r, 1, none⟩) (h.glt r h.gr) (hs r h.gr)).trans h.cx,
    fun o => (hk.frozen (p := ⟨r, o, none⟩) (h.glt r h.gr) (hs r h.gr)).trans (h.free o), ownsRow_only h.row hk (fun b q => hs b (h.own b q).1), h.own, h.gr, fun b q => Nat.lt_of_lt_of_le (h.glt b q) hk.size⟩

theorem Ref3.like {w' : World} (h : Ref3 f E3 G w r v L x) (hk : Like w' w) : Ref3 f E3 G w' r v L x := h.kept (hk.only (fun _ => False)) (fun _ _ q => q)
theorem RefIs.kept {S : Nat → Prop} {w' : World} (h : RefIs f E3 G w r L x) (hk : Only S w w') (hs : ∀ b, G b → ¬ S b) : RefIs f E3 G w' r L x := by
  obtain ⟨v, h⟩ := h
  exact ⟨v, h.kept hk hs⟩
theorem RefIs.like {w' : World} (h : RefIs f E3 G w r L x) (hk : Like w' w) : RefIs f E3 G w' r L x := h.kept (hk.only (fun _ => False)) (fun _ _ q => q)

/-- The cells of a place. -/
theorem Ref3.at_ (h : Ref3 f E3 G w r v L x) {k : Nat} (hk : k < L.length) : ∃ g cap, v = .slice (some ⟨g, 0, none⟩) L.length cap ∧ w.cell? ⟨g, k * 3, none⟩ = some (.int .i64 (f L[k]).1) ∧ w.cell? ⟨g, k * 3 + 1, none⟩ = some (.int .i64 (f L[k]).2.1) ∧ w.cell? ⟨g, k * 3 + 2, none⟩ = some (.int .i64 (f L[k]).2.2) := by
  obtain ⟨g, cap, rfl⟩ := own_form h.row (by omega)
  obtain ⟨e0, e1, e2⟩ := flat3_get (f := f) hk
  refine ⟨g, cap, rfl, ?_, ?_, ?_⟩
  · rw [h.row.cellAt _ (by omega)]; exact e0
  · rw [h.row.cellAt _ (by omega)]; exact e1
  · rw [h.row.cellAt _ (by omega)]; exact e2

/-- The number is another one. -/
theorem Ref3.setX (h : Ref3 f E3 G w r v L x) (x' : Int) : Ref3 f E3 G (w.setCell ⟨r, 1, none⟩ (.int .i64 x')) r v L x' ∧ Only G w (w.setCell ⟨r, 1, none⟩ (.int .i64 x')) := by
  have o : Only G w (w.setCell ⟨r, 1, none⟩ (.int .i64 x')) := Only.setCell (S := G) w (a := ⟨r, 1, none⟩) h.gr _
  exact ⟨⟨(cell_set_ne _ (by simp)).trans h.cl, World.cell?_setCell_same _ _ _ h.cx, fun q => (World.frozen?_setCell ..).trans (h.free q),
    ownsRow_only h.row (Only.setCell (S := fun b => b = r) w (a := ⟨r, 1, none⟩) rfl _) (fun b q e => (h.own b q).2 e), h.own, h.gr, fun b q => Nat.lt_of_lt_of_le (h.glt b q) o.size⟩, o⟩

/-- The slice is another one. -/
theorem Ref3.setL {w1 w' : World} {v' : Value} {L' : List α} (h : Ref3 f E3 G w r v L x) (o : Only (fun _ => False) w w1) (hrow : w1.ownsRow 0 E3 3 v' L'.length (flat3 f L')) (hv : ∀ b, v'.ownBlock = some b → w.heap.size ≤ b)
    (hw : Like w' (w1.setCell ⟨r, 0, none⟩ v')) :
    Ref3 f E3 (fun b => G b ∨ v'.ownBlock = some b) w' r v' L' x ∧ Only G w w' := by
  have hr := h.glt r h.gr
  have h0 : w1.cell? ⟨r, 0, none⟩ = some v := (o.cell (p := ⟨r, 0, none⟩) hr (fun q => q)).trans h.cl
  have h1 : w1.cell? ⟨r, 1, none⟩ = some (.int .i64 x) := (o.cell (p := ⟨r, 1, none⟩) hr (fun q => q)).trans h.cx
  have o2 : Only G w1 w' := (Only.setCell (S := G) w1 (a := ⟨r, 0, none⟩) h.gr _).trans (hw.only G)
  have o3 : Only G w w' := (o.mono fun _ _ q => q.elim).trans o2
  have hb : ∀ b, b ≠ r → w'.heap[b]? = w1.heap[b]? := fun b e => by rw [hw.heap, RowKit.Below.heap_setCell _ _ _ _ e]
  have e0 : w'.cell? ⟨r, 0, none⟩ = some v' := by
    rw [cell_of_heap hw.heap]
    exact World.cell?_setCell_same _ _ _ h0
  have e1 : w'.cell? ⟨r, 1, none⟩ = some (.int .i64 x) := by
    rw [cell_of_heap hw.heap, cell_set_ne _ (by simp)]
    exact h1
  refine ⟨⟨e0, e1, fun q => ?_, ownsRow_only (w := w1) (S := fun b => b = r) hrow ⟨o2.os, o2.tape, o2.output, o2.size, fun b _ e => hb b e⟩ (fun b q e => ?_), fun g q => ⟨.inr q, fun e => ?_⟩, .inl h.gr, ?_⟩, o3⟩
  · rw [frozen_of_heap hw.heap, World.frozen?_setCell]
    exact (o.frozen (p := ⟨r, q, none⟩) hr (fun q => q)).trans (h.free q)
  · have := hv b q; omega
  · have := hv g q; omega
  · rintro b (q | q)
    · exact Nat.lt_of_lt_of_le (h.glt b q) o3.size
    · exact Nat.lt_of_lt_of_le (hrow.lt b q).2 o2.size
end
end Go.Proofs.YtdgnfdheofacgaaGreat
