/- Plain facts for HeapPlays: what is found, what goes; the heap, the reference and the book side by side ('PI'). -/
import Derived.Test.YtmneilbfpomobaaGreatHq
import Derived.Test.YtmneilbfpomobaaGreatRefH
import Derived.Test.YtmneilbfpomobaaGreatBookA
namespace Go.Proofs.YtmneilbfpomobaaGreat
open Go.RowKit

theorem HeapIs.nodup {β : Type} {V : β → Value} {E : TypeId} {F : Nat → Prop} {w : World} {c : Nat} {W : List (Wt β)} {last : Int} (h : HeapIs V E F w c W last) : (W.map (·.id)).Nodup := by
  obtain ⟨v, n, a, R, h, ho, hs, rfl, hid⟩ := h
  rw [List.map_map]
  exact h.its.ids

theorem HeapIs.lastR {β : Type} {V : β → Value} {E : TypeId} {F : Nat → Prop} {w : World} {c : Nat} {W : List (Wt β)} {last : Int} (h : HeapIs V E F w c W last) : ∀ x ∈ W, 1 ≤ x.id ∧ x.id ≤ last := by
  obtain ⟨v, n, a, R, h, ho, hs, rfl, hid⟩ := h
  intro x hx
  obtain ⟨y, hy, rfl⟩ := List.mem_map.1 hx
  exact hid y hy

theorem idx_cases (W : List (Wt Int)) (id : Int) : (∃ k, ∃ hk : k < W.length, RH.idx W id = k ∧ findW W id = some W[k] ∧ W[k].id = id) ∨ (RH.idx W id = -1 ∧ findW W id = none) := by
  unfold RH.idx
  cases h : W.findIdx? (fun x => x.id == id) with
  | none =>
    refine .inr ⟨rfl, List.find?_eq_none.2 fun y hy => ?_⟩
    have := List.findIdx?_eq_none_iff.1 h y hy
    simpa using this
  | some k =>
    rw [List.findIdx?_eq_some_iff_getElem] at h
    obtain ⟨hk, h1, h2⟩ := h
    refine .inl ⟨k, hk, rfl, ?_, by simpa using h1⟩
    unfold findW
    rw [List.find?_eq_some_iff_getElem]
    exact ⟨by simpa using h1, k, hk, rfl, fun j hj => by have := h2 j hj; simpa using this⟩

theorem outW_at {W : List (Wt Int)} (hn : (W.map (·.id)).Nodup) {k : Nat} (hk : k < W.length) : outW W W[k].id = W.eraseIdx k := by
  induction W generalizing k with
  | nil => simp at hk
  | cons x W ih =>
    simp only [List.map_cons, List.nodup_cons] at hn
    cases k with
    | zero =>
      unfold outW
      simp only [List.getElem_cons_zero, List.eraseIdx_cons_zero]
      rw [List.filter_cons_of_neg (by simp)]
      refine List.filter_eq_self.2 fun y hy => ?_
      simp only [ne_eq, decide_not, Bool.not_eq_eq_eq_not, Bool.not_true, decide_eq_false_iff_not]
      exact fun e => hn.1 (List.mem_map.2 ⟨y, hy, e⟩)
    | succ k =>
      have hk' : k < W.length := by simpa using hk
      have h2 := ih hn.2 hk'
      simp only [List.getElem_cons_succ, List.eraseIdx_cons_succ]
      rw [← h2]
      unfold outW
      rw [List.filter_cons_of_pos]
      simp only [ne_eq, decide_not, Bool.not_eq_eq_eq_not, Bool.not_true, decide_eq_false_iff_not]
      exact fun e => hn.1 (List.mem_map.2 ⟨W[k], List.getElem_mem hk', e.symm⟩)

theorem insW_length (x : Wt Int) (W : List (Wt Int)) : (insW x W).length = W.length + 1 := by
  induction W with
  | nil => rfl
  | cons y r ih =>
    unfold insW
    split
    · simp [ih]
    · rfl

theorem outW_miss {W : List (Wt Int)} {id : Int} (h : findW W id = none) : outW W id = W := by
  unfold outW
  refine List.filter_eq_self.2 fun y hy => ?_
  have := List.find?_eq_none.1 h y hy
  simpa using this

theorem takeW_due {x : Wt Int} {W : List (Wt Int)} {now : Int} (h : x.at_ ≤ now) : HI.takeW (x :: W) now = (x :: W).eraseIdx 0 := by simp [HI.takeW, h]

theorem first_cases (X : List (Wt Int)) : (HI.firstV X = .tuple #[.int .i64 0, .int .i64 0, .bool false] ∧ X.length = 0) ∨ ∃ h : 0 < X.length, HI.firstV X = .tuple #[.int .i64 X[0].at_, .int .i64 X[0].v, .bool true] := by
  cases X with
  | nil => exact .inl ⟨rfl, rfl⟩
  | cons x X => exact .inr ⟨by simp, rfl⟩

/-- a new book -/
def nils30 : Array Value := #[Value.slice none 0 0, .slice none 0 0, .slice none 0 0, .slice none 0 0, .slice none 0 0, .slice none 0 0, .slice none 0 0, .slice none 0 0, .slice none 0 0, .slice none 0 0, .slice none 0 0, .slice none 0 0, .slice none 0 0, .slice none 0 0, .slice none 0 0, .slice none 0 0, .slice none 0 0, .slice none 0 0, .slice none 0 0, .slice none 0 0, .slice none 0 0, .slice none 0 0, .slice none 0 0, .slice none 0 0, .slice none 0 0, .slice none 0 0, .slice none 0 0, .slice none 0 0, .slice none 0 0, .slice none 0 0]

theorem BK.made (w : World) (T : TypeId) : BK.Is (fun b => b = w.heap.size) (w.alloc (.cells nils30 T)) w.heap.size [] := by
  have ec : ∀ o, (w.alloc (.cells nils30 T)).cell? ⟨w.heap.size, o, none⟩ = nils30[o]? := fun o => World.cell?_alloc_new w _ T o
  have e30 : ∀ o : Nat, o < 30 → nils30[o]? = some (Value.slice none 0 0) := fun o h => match o, h with | 0, _ => rfl | 1, _ => rfl | 2, _ => rfl | 3, _ => rfl | 4, _ => rfl | 5, _ => rfl | 6, _ => rfl | 7, _ => rfl | 8, _ => rfl | 9, _ => rfl | 10, _ => rfl | 11, _ => rfl | 12, _ => rfl | 13, _ => rfl | 14, _ => rfl | 15, _ => rfl | 16, _ => rfl | 17, _ => rfl | 18, _ => rfl | 19, _ => rfl | 20, _ => rfl | 21, _ => rfl | 22, _ => rfl | 23, _ => rfl | 24, _ => rfl | 25, _ => rfl | 26, _ => rfl | 27, _ => rfl | 28, _ => rfl | 29, _ => rfl | n + 30, h => absurd h (by omega)
  refine ⟨.slice none 0 0, .slice none 0 0, [], ⟨(ec 2).trans (e30 2 (by omega)), (ec 3).trans (e30 3 (by omega)), fun o h _ _ => (ec o).trans (e30 o h), fun o => World.frozen?_alloc_new w _ T o, World.ownsRow_nil _ _ _ _, World.ownsRow_nil _ _ _ _, by simp, ?_, ?_, ?_⟩, rfl, rfl⟩
  · unfold Apt kblocks
    simp [Value.ownBlock]
  · intro p hp b e
    simp [kblocks, Value.ownBlock] at hp
    rcases hp with rfl | rfl
    · cases e; rfl
    · cases e
  · intro b q
    subst q; simp

theorem RH.made (w : World) (T : TypeId) : RH.Is (fun b => b = w.heap.size) (w.alloc (.cells #[.slice none 0 0, .int .i64 0] T)) w.heap.size [] 0 := by
  have ec : ∀ o, (w.alloc (.cells #[.slice none 0 0, .int .i64 0] T)).cell? ⟨w.heap.size, o, none⟩ = #[Value.slice none 0 0, .int .i64 0][o]? := fun o => World.cell?_alloc_new w _ T o
  exact ⟨.slice none 0 0, ec 0, ec 1, fun o => World.frozen?_alloc_new w _ T o, World.ownsRow_nil _ _ _ _, by simp [Value.ownBlock], rfl, fun b q => by subst q; simp⟩

/-- The heap, the reference and the book, side by side: w0 is the world at the begin. -/
structure PI (w0 w : World) (c r B : Nat) (W : List (Wt Int)) (last : Int) (W' : List (Wt Int)) (last' : Int) (L : List (List Int)) (F G K : Nat → Prop) : Prop where
  h : HI.Is F w c W last
  g : RH.Is G w r W' last'
  k : BK.Is K w B L
  glt : ∀ b, G b → b < w.heap.size
  fg : ∀ b, F b → ¬ G b
  fk : ∀ b, F b → ¬ K b
  gk : ∀ b, G b → ¬ K b
  fn : ∀ b, F b → w0.heap.size ≤ b
  gn : ∀ b, G b → w0.heap.size ≤ b
  kn : ∀ b, K b → w0.heap.size ≤ b
  below : Below w0.heap.size w0 w

section
variable {w0 w w' : World} {c r B : Nat} {W W' X : List (Wt Int)} {last last' z : Int} {L M : List (List Int)} {F G K F' G' K' : Nat → Prop}

theorem PI.stepH (p : PI w0 w c r B W last W' last' L F G K) (h : HI.Is F' w' c X z) (o : Only F w w') (hF : ∀ b, F' b → F b ∨ w.heap.size ≤ b) : PI w0 w' c r B X z W' last' L F' G K := by
  have klt := p.k.klt
  have hs := p.below.size
  refine ⟨h, p.g.kept o (fun b q s => p.fg b s q), p.k.kept o (fun b q s => p.fk b s q), fun b q => Nat.lt_of_lt_of_le (p.glt b q) o.size, fun b q s => ?_, fun b q s => ?_, p.gk, fun b q => ?_, p.gn, p.kn, new_below p.below o p.fn⟩
  · rcases hF b q with e | e
    · exact p.fg b e s
    · have := p.glt b s; omega
  · rcases hF b q with e | e
    · exact p.fk b e s
    · have := klt b s; omega
  · rcases hF b q with e | e
    · exact p.fn b e
    · omega

theorem PI.stepG (p : PI w0 w c r B W last W' last' L F G K) (h : RH.Is G' w' r X z) (o : Only G w w') (hG : ∀ b, G' b → G b ∨ w.heap.size ≤ b) : PI w0 w' c r B W last X z L F G' K := by
  have klt := p.k.klt
  have flt := p.h.flt
  have hs := p.below.size
  obtain ⟨v, hv⟩ := h
  refine ⟨p.h.kept o (fun b q s => p.fg b q s), ⟨v, hv⟩, p.k.kept o (fun b q s => p.gk b s q), hv.glt, fun b q s => ?_, p.fk, fun b q s => ?_, p.fn, fun b q => ?_, p.kn, new_below p.below o p.gn⟩
  · rcases hG b s with e | e
    · exact p.fg b q e
    · have := flt b q; omega
  · rcases hG b q with e | e
    · exact p.gk b e s
    · have := klt b s; omega
  · rcases hG b q with e | e
    · exact p.gn b e
    · omega

/-- A list that was just answered is kept. -/
theorem PI.stepK {N : Nat} {v : Value} (p : PI w0 w c r B W last W' last' L F G K) (h : BK.Is K' w' B M) (o : Only K w w') (hK : ∀ b, K' b → K b ∨ v.ownBlock = some b ∨ w.heap.size ≤ b) (hv : ∀ b, v.ownBlock = some b → N ≤ b) (hF : ∀ b, F b → b < N) (hG : ∀ b, G b → b < N) (hN : w0.heap.size ≤ N) : PI w0 w' c r B W last W' last' M F G K' := by
  have glt := p.glt
  have flt := p.h.flt
  have hs := p.below.size
  refine ⟨p.h.kept o (fun b q s => p.fk b q s), p.g.kept o (fun b q s => p.gk b q s), h, fun b q => Nat.lt_of_lt_of_le (p.glt b q) o.size, p.fg, fun b q s => ?_, fun b q s => ?_, p.fn, p.gn, fun b q => ?_, new_below p.below o p.kn⟩
  · rcases hK b s with e | e | e
    · exact p.fk b q e
    · have := hv b e; have := hF b q; omega
    · have := flt b q; omega
  · rcases hK b s with e | e | e
    · exact p.gk b q e
    · have := hv b e; have := hG b q; omega
    · have := glt b q; omega
  · rcases hK b q with e | e | e
    · exact p.kn b e
    · have := hv b e; omega
    · omega

theorem PI.only (p : PI w0 w c r B W last W' last' L F G K) (o : Only (fun _ => False) w w') : PI w0 w' c r B W last W' last' L F G K :=
  ⟨p.h.kept o (fun _ _ q => q), p.g.kept o (fun _ _ q => q), p.k.kept o (fun _ _ q => q), fun b q => Nat.lt_of_lt_of_le (p.glt b q) o.size, p.fg, p.fk, p.gk, p.fn, p.gn, p.kn, new_below p.below o (fun _ q => q.elim)⟩

theorem PI.like (p : PI w0 w c r B W last W' last' L F G K) (hk : Like w' w) : PI w0 w' c r B W last W' last' L F G K := p.only (hk.only _)

/-- What is new is written. -/
theorem PI.new {S : Nat → Prop} {N : Nat} (p : PI w0 w c r B W last W' last' L F G K) (o : Only S w w') (hS : ∀ b, S b → N ≤ b) (hF : ∀ b, F b → b < N) (hG : ∀ b, G b → b < N) (hK : ∀ b, K b → b < N) (hN : w0.heap.size ≤ N) : PI w0 w' c r B W last W' last' L F G K :=
  ⟨p.h.kept o (fun b q s => by have := hS b s; have := hF b q; omega), p.g.kept o (fun b q s => by have := hS b s; have := hG b q; omega), p.k.kept o (fun b q s => by have := hS b s; have := hK b q; omega), fun b q => Nat.lt_of_lt_of_le (p.glt b q) o.size, p.fg, p.fk, p.gk, p.fn, p.gn, p.kn, new_below p.below o (fun b q => Nat.le_trans hN (hS b q))⟩
end

/-- What is told at each round's head. -/
def PIs (w0 w : World) (c r B k : Nat) : Prop := ∃ W last L F G K, PI w0 w c r B W last W last L F G K ∧ W.length ≤ k ∧ 0 ≤ last ∧ last ≤ k ∧ L.length = k ∧ ∀ l ∈ L, l.length ≤ 1000

end Go.Proofs.YtmneilbfpomobaaGreat
