/- A heap of package heap as a sorted list of what waits ('HeapIs'). No program. -/
import Derived.Test.YtmneilbfpomobaaGreatHeapN
namespace Go.Proofs.YtmneilbfpomobaaGreat
open Go.RowKit

/-- What waits: its time, its id, its value. -/
structure Wt (β : Type) where
  at_ : Int
  id : Int
  v : β

def It.pay {β : Type} (x : It β) : Wt β := ⟨x.at_, x.id, x.v⟩

section
variable {β : Type}

def insW (x : Wt β) : List (Wt β) → List (Wt β)
  | [] => [x]
  | y :: r => if y.at_ ≤ x.at_ then y :: insW x r else x :: y :: r

def insS (x : It β) : List (It β) → List (It β)
  | [] => [x]
  | y :: r => if y.at_ ≤ x.at_ then y :: insS x r else x :: y :: r

def outW (W : List (Wt β)) (id : Int) : List (Wt β) := W.filter fun x => decide (x.id ≠ id)
def findW (W : List (Wt β)) (id : Int) : Option (Wt β) := W.find? fun x => decide (x.id = id)

theorem insS_pay (x : It β) : ∀ R : List (It β), (insS x R).map It.pay = insW x.pay (R.map It.pay)
  | [] => rfl
  | y :: r => by
    by_cases h : y.at_ ≤ x.at_
    · simp only [insS, if_pos h, List.map_cons, insW]
      rw [insS_pay x r, if_pos (show y.pay.at_ ≤ x.pay.at_ from h)]
    · simp only [insS, if_neg h, List.map_cons, insW]
      rw [if_neg (show ¬ y.pay.at_ ≤ x.pay.at_ from h)]

theorem insS_perm (x : It β) : ∀ R : List (It β), (x :: R).Perm (insS x R)
  | [] => List.Perm.refl _
  | y :: r => by
    unfold insS
    split
    · exact (List.Perm.swap y x r).trans (List.Perm.cons y (insS_perm x r))
    · exact List.Perm.refl _

theorem insS_sorted (x : It β) : ∀ R : List (It β), R.Pairwise It.le → (∀ y ∈ R, y.id < x.id) → (insS x R).Pairwise It.le
  | [], _, _ => by simp [insS]
  | y :: r, h, hid => by
    obtain ⟨h1, h2⟩ := List.pairwise_cons.1 h
    unfold insS
    split
    · rename_i hle
      refine List.pairwise_cons.2 ⟨fun z hz => ?_, insS_sorted x r h2 (fun z hz => hid z (by simp [hz]))⟩
      rcases List.mem_cons.1 ((insS_perm x r).mem_iff.2 hz) with rfl | hz
      · have := hid y (by simp)
        unfold It.le; omega
      · exact h1 z hz
    · rename_i hle
      refine List.pairwise_cons.2 ⟨fun z hz => ?_, h⟩
      rcases List.mem_cons.1 hz with rfl | hz
      · unfold It.le; omega
      · have := h1 z hz
        unfold It.le at *; omega

variable (V : β → Value) (E : TypeId)

def HeapIs (F : Nat → Prop) (w : World) (c : Nat) (W : List (Wt β)) (last : Int) : Prop :=
  ∃ v n a R, HeapAt V E F w c v n a R last ∧ HeapOrd a n ∧ R.Pairwise It.le ∧ R.map It.pay = W ∧ ∀ x ∈ R, 1 ≤ x.id ∧ x.id ≤ last

variable {V E}
variable {F : Nat → Prop} {w : World} {c : Nat} {v : Value} {n : Nat} {a : Nat → It β} {R : List (It β)} {last : Int} {W : List (Wt β)}

/-- The first of the list stands at the head of the array. -/
theorem head_is {x : It β} (h : Items a n (x :: R)) (ho : HeapOrd a n) (hs : (x :: R).Pairwise It.le) : 0 < n ∧ a 0 = x := by
  have hn : 0 < n := by have := h.len; simp at this; omega
  have h0 : a 0 ∈ x :: R := h.mem.2 ⟨0, hn, rfl⟩
  obtain ⟨k, hk, hax⟩ := h.mem.1 (List.mem_cons_self (a := x) (l := R))
  have h1 := ho.min k hk
  rw [hax] at h1
  have h2 : x.le (a 0) := by
    rcases List.mem_cons.1 h0 with e | e
    · rw [e]; exact It.le_refl _
    · exact (List.pairwise_cons.1 hs).1 _ e
  refine ⟨hn, inj_id h.ids h0 (by simp) ?_⟩
  unfold It.le at *; omega

theorem HeapIs.kept {S : Nat → Prop} {w' : World} (h : HeapIs V E F w c W last) (hk : Only S w w') (hs : ∀ b, F b → ¬ S b) : HeapIs V E F w' c W last := by
  obtain ⟨v, n, a, R, h, r⟩ := h
  exact ⟨v, n, a, R, h.kept hk hs, r⟩

theorem HeapIs.flt (h : HeapIs V E F w c W last) : ∀ b, F b → b < w.heap.size := by
  obtain ⟨v, n, a, R, h, r⟩ := h
  exact h.flt

/-- An item that is there stands somewhere in the array. -/
theorem HeapAt.place (h : HeapAt V E F w c v n a R last) {x : It β} (hx : x ∈ R) : ∃ k, k < n ∧ a k = x := h.its.mem.1 hx

/-- The map, where there is an item. -/
theorem HeapAt.map (h : HeapAt V E F w c v n a R last) (hR : R ≠ []) : ∃ M f, w.cell? ⟨c, 1, none⟩ = some (.map (some M)) ∧ MapIs (.int .i64) w M f n ∧ F M ∧ ∀ kv u, f kv = some u ↔ ∃ x ∈ R, Value.int .i64 x.id = kv ∧ ptrB x.b = u := by
  rcases h.mp with ⟨_, q⟩ | q
  · exact absurd q hR
  · exact q

theorem findW_map {id : Int} (h : (R.map (·.id)).Nodup) {x : It β} (hx : x ∈ R) (e : x.id = id) : findW (R.map It.pay) id = some x.pay := by
  induction R with
  | nil => cases hx
  | cons y r ih =>
    simp only [List.map_cons, List.nodup_cons] at h
    by_cases e2 : y.id = id
    · have : x = y := by
        rcases List.mem_cons.1 hx with q | q
        · exact q
        · exact absurd (List.mem_map.2 ⟨x, q, e.trans e2.symm⟩) h.1
      subst this
      simp [findW, It.pay, e2]
    · have hxr : x ∈ r := by
        rcases List.mem_cons.1 hx with q | q
        · subst q; exact absurd e e2
        · exact q
      have := ih h.2 hxr
      simpa [findW, It.pay, e2] using this

theorem findW_none {id : Int} (h : ∀ x ∈ R, x.id ≠ id) : findW (R.map It.pay) id = none :=
  List.find?_eq_none.2 fun y hy => by
    obtain ⟨x, hx, rfl⟩ := List.mem_map.1 hy
    simp [It.pay, h x hx]

theorem outW_map (R : List (It β)) (id : Int) : (R.filter fun x => decide (x.id ≠ id)).map It.pay = outW (R.map It.pay) id := by
  unfold outW
  rw [List.filter_map]
  rfl

/-- A new heap. -/
theorem HeapIs.made (b0 : β) (w : World) (T : TypeId) : HeapIs V E (fun b => b = w.heap.size) (w.alloc (.cells #[.slice none 0 0, .map none, .int .i64 0] T)) w.heap.size [] 0 ∧ Only (fun _ => False) w (w.alloc (.cells #[.slice none 0 0, .map none, .int .i64 0] T)) := by
  have ec : ∀ o, (w.alloc (.cells #[.slice none 0 0, .map none, .int .i64 0] T)).cell? ⟨w.heap.size, o, none⟩ = #[Value.slice none 0 0, .map none, .int .i64 0][o]? := fun o => World.cell?_alloc_new w _ T o
  refine ⟨⟨.slice none 0 0, 0, fun _ => ⟨0, 0, 0, b0⟩, [], ⟨⟨by simp, by simp⟩, ec 0, World.ownsRow_nil _ _ _ _, by simp [Value.ownBlock], .inl ⟨ec 1, rfl⟩, ec 2, fun o => World.frozen?_alloc_new w _ T o, by simp, by simp, by simp, rfl, by simp, fun b q => by subst q; simp⟩, fun k _ hk => by omega, by simp, rfl, by simp⟩, Only.alloc _ _ _⟩
end
end Go.Proofs.YtmneilbfpomobaaGreat
