/- The plain law of HeapSorts: what is put in comes out by its time, and of one time as it was put. No program. -/
import Derived.Test.YtmneilbfpomobaaHeapQ
namespace Go.Proofs.Ytmneilbfpomobaa
open Go.RowKit

/-- What the walk is told of a slice of integers that came in. -/
def IsRow (k : IntKind) (w : World) (a : Option Addr) (len cap : Nat) (zs : List Int) : Prop :=
  (a = none ∧ len = 0 ∧ cap = 0 ∧ zs = []) ∨
  ∃ x, a = some x ∧ len ≤ cap ∧ cap ≤ maxLen ∧ zs.length = cap ∧ (∀ i, i < zs.length → w.cell? (x.add i) = some (.int k (zs.getD i 0))) ∧ ∀ n ∈ zs, (Lit.int k n).wf = true

/-- Element i of it. -/
theorem IsRow.at {k : IntKind} {w : World} {a : Option Addr} {len cap : Nat} {zs : List Int} (h : IsRow k w a len cap zs) {i : Nat} (hi : i < len) :
    ∃ b off, a = some ⟨b, off, none⟩ ∧ w.cell? ⟨b, off + i, none⟩ = some (.int k (zs.getD i 0)) := by
  rcases h with ⟨_, rfl, _⟩ | ⟨x, rfl, h1, _, h3, h4, _⟩
  · omega
  · have h0 := h4 0 (by omega)
    have hi' := h4 i (by omega)
    obtain ⟨b, off, spot⟩ := x
    have hs : spot = none := by
      cases spot with
      | none => rfl
      | some q =>
        simp only [Addr.add, if_pos] at h0
        simp [World.cell?] at h0
        split at h0 <;> simp at h0
    subst hs
    refine ⟨b, off, rfl, ?_⟩
    by_cases e : i = 0
    · subst e; simpa [Addr.add] using hi'
    · simpa [Addr.add, e] using hi'

theorem IsRow.fits {w : World} {a : Option Addr} {len cap : Nat} {zs : List Int} (h : IsRow .i64 w a len cap zs) {i : Nat} (hi : i < len) : zs.getD i 0 ≤ 9223372036854775807 := by
  rcases h with ⟨_, rfl, _⟩ | ⟨x, rfl, h1, _, h3, h4, h5⟩
  · omega
  · have hm : zs.getD i 0 ∈ zs := by
      have hl : i < zs.length := by omega
      rw [List.getD_eq_getElem?_getD, List.getElem?_eq_getElem hl]
      exact List.getElem_mem hl
    have := h5 _ hm
    simp only [Lit.wf, Bool.and_eq_true, decide_eq_true_eq] at this
    exact Int.le_trans this.2 (by decide)

/-- Two that wait, in order: by time, and of one time by value. -/
def vlt (x y : Wt Int) : Prop := x.at_ < y.at_ ∨ (x.at_ = y.at_ ∧ x.v < y.v)

structure Good (z : Nat → Int) (n : Nat) (W : List (Wt Int)) : Prop where
  sorted : W.Pairwise vlt
  low : ∀ x ∈ W, 0 ≤ x.v
  high : ∀ x ∈ W, x.v < n
  at_ : ∀ x ∈ W, x.at_ = z x.v.toNat

theorem Good.nil (z : Nat → Int) (n : Nat) : Good z n [] := ⟨by simp, by simp, by simp, by simp⟩

theorem mem_insW {β : Type} (x y : Wt β) : ∀ W, y ∈ insW x W ↔ y = x ∨ y ∈ W
  | [] => by simp [insW]
  | a :: r => by
    unfold insW
    split
    · simp only [List.mem_cons, mem_insW x y r]
      constructor
      · rintro (h | h | h)
        · exact .inr (.inl h)
        · exact .inl h
        · exact .inr (.inr h)
      · rintro (h | h | h)
        · exact .inr (.inl h)
        · exact .inl h
        · exact .inr (.inr h)
    · simp

theorem length_insW {β : Type} (x : Wt β) : ∀ W, (insW x W).length = W.length + 1
  | [] => by simp [insW]
  | a :: r => by
    unfold insW
    split
    · simp [length_insW x r]
    · simp

theorem insW_sorted (x : Wt Int) : ∀ W : List (Wt Int), W.Pairwise vlt → (∀ y ∈ W, y.v < x.v) → (insW x W).Pairwise vlt
  | [], _, _ => by simp [insW]
  | y :: r, h, hv => by
    obtain ⟨h1, h2⟩ := List.pairwise_cons.1 h
    unfold insW
    split
    · rename_i hle
      refine List.pairwise_cons.2 ⟨fun q hq => ?_, insW_sorted x r h2 (fun q hq => hv q (by simp [hq]))⟩
      rcases (mem_insW x q r).1 hq with rfl | hq
      · have := hv y (by simp)
        unfold vlt; omega
      · exact h1 q hq
    · rename_i hle
      refine List.pairwise_cons.2 ⟨fun q hq => ?_, h⟩
      rcases List.mem_cons.1 hq with rfl | hq
      · unfold vlt; omega
      · have := h1 q hq
        unfold vlt at *; omega

/-- The next one is put. -/
theorem Good.put {z : Nat → Int} {n : Nat} {W : List (Wt Int)} (h : Good z n W) : Good z (n + 1) (insW ⟨z n, n + 1, n⟩ W) := by
  refine ⟨insW_sorted _ W h.sorted (fun y hy => h.high y hy), fun x hx => ?_, fun x hx => ?_, fun x hx => ?_⟩
  · rcases (mem_insW _ x W).1 hx with rfl | hx
    · simp
    · exact h.low x hx
  · rcases (mem_insW _ x W).1 hx with rfl | hx
    · simp; omega
    · have := h.high x hx; omega
  · rcases (mem_insW _ x W).1 hx with rfl | hx
    · simp
    · exact h.at_ x hx

/-- What came last stands ahead of all that waits. -/
def Ahead (z : Nat → Int) (n : Nat) (last : Int) (W : List (Wt Int)) : Prop := last = -1 ∨ (0 ≤ last ∧ last < n ∧ ∀ x ∈ W, z last.toNat < x.at_ ∨ (z last.toNat = x.at_ ∧ last < x.v))

theorem Good.step {z : Nat → Int} {n : Nat} {x : Wt Int} {W : List (Wt Int)} (h : Good z n (x :: W)) : Good z n W ∧ Ahead z n x.v W := by
  obtain ⟨h1, h2⟩ := List.pairwise_cons.1 h.sorted
  refine ⟨⟨h2, fun y hy => h.low y (by simp [hy]), fun y hy => h.high y (by simp [hy]), fun y hy => h.at_ y (by simp [hy])⟩, .inr ⟨h.low x (by simp), h.high x (by simp), fun y hy => ?_⟩⟩
  rw [← h.at_ x (by simp)]
  exact h1 y hy

end Go.Proofs.Ytmneilbfpomobaa
