/- Plain facts for LruPlays: the cache, the reference and the book side by side ('PL'). -/
import Derived.Test.YtdgnfdheofacgaaGreatZeroII
import Derived.Test.YtdgnfdheofacgaaGreatRefLP
import Derived.Test.YtdgnfdheofacgaaGreatBookA
namespace Go.Proofs.YtdgnfdheofacgaaGreat
open Go.RowKit

theorem turnS_set {S : List (Slot Int Int)} (hn : (S.map (·.k)).Nodup) {i : Nat} (hi : i < S.length) (g : Slot Int Int → Slot Int Int) : turnS S S[i].k g = S.set i (g S[i]) := by
  have e : S = S.take i ++ S[i] :: S.drop (i + 1) := by rw [List.getElem_cons_drop, List.take_append_drop]
  have hn' := hn
  rw [e] at hn'
  have := turnS_mid hn' g
  rw [← e] at this
  rw [this, List.set_eq_take_append_cons_drop, if_pos hi]

theorem putS_len1 {S : List (Slot Int Int)} {room k v : Int} (hn : (S.map (·.k)).Nodup) : (putS room S k v).1.length ≤ S.length + 1 := by
  rcases putS_cases room S k v with ⟨s, hs, e⟩ | ⟨hs, ⟨e, _⟩ | ⟨_, _, x, hx, e⟩ | ⟨_, _, e⟩⟩
  · rw [e]
    have := without_length hn (slotOf_some hs).1
    rw [(slotOf_some hs).2] at this
    simp only [List.length_cons]; omega
  · rw [e]; simp
  · rw [e]
    have := without_length hn (idleS_some hx).1
    simp only [List.length_cons]; omega
  · rw [e]; simp

theorem putS_pins {S : List (Slot Int Int)} {room k v : Int} {j : Nat} (h : ∀ s ∈ S, 0 ≤ s.pins ∧ s.pins ≤ j) : ∀ s ∈ (putS room S k v).1, 0 ≤ s.pins ∧ s.pins ≤ ((j + 1 : Nat) : Int) := fun s hs => by
  rcases putS_mem hs with ⟨_, e | ⟨t, ht, _, e⟩⟩ | hs
  · rw [e]; omega
  · have := h t ht; omega
  · have := h s hs; omega

theorem RL.made (w : World) (room : Int) (T : TypeId) : RL.Is (fun b => b = w.heap.size) (w.alloc (.cells #[.slice none 0 0, .int .i64 room] T)) w.heap.size [] room := by
  have ec : ∀ o, (w.alloc (.cells #[.slice none 0 0, .int .i64 room] T)).cell? ⟨w.heap.size, o, none⟩ = #[Value.slice none 0 0, .int .i64 room][o]? := fun o => World.cell?_alloc_new w _ T o
  exact ⟨.slice none 0 0, ec 0, ec 1, fun o => World.frozen?_alloc_new w _ T o, World.ownsRow_nil _ _ _ _, by simp [Value.ownBlock], rfl, fun b q => by subst q; simp⟩

/-- a new book -/
def nils30 : Array Value := #[Value.slice none 0 0, .slice none 0 0, .slice none 0 0, .slice none 0 0, .slice none 0 0, .slice none 0 0, .slice none 0 0, .slice none 0 0, .slice none 0 0, .slice none 0 0, .slice none 0 0, .slice none 0 0, .slice none 0 0, .slice none 0 0, .slice none 0 0, .slice none 0 0, .slice none 0 0, .slice none 0 0, .slice none 0 0, .slice none 0 0, .slice none 0 0, .slice none 0 0, .slice none 0 0, .slice none 0 0, .slice none 0 0, .slice none 0 0, .slice none 0 0, .slice none 0 0, .slice none 0 0, .slice none 0 0]

theorem BK.made (w : World) (T : TypeId) : BK.Is (fun b => b = w.heap.size) (w.alloc (.cells nils30 T)) w.heap.size [] := by
  have ec : ∀ o, (w.alloc (.cells nils30 T)).cell? ⟨w.heap.size, o, none⟩ = nils30[o]? := fun o => World.cell?_alloc_new w _ T o
  have e30 : ∀ o : Nat, o < 30 → nils30[o]? = some (Value.slice none 0 0) := fun o h => match o, h with | 0, _ => rfl | 1, _ => rfl | 2, _ => rfl | 3, _ => rfl | 4, _ => rfl | 5, _ => rfl | 6, _ => rfl | 7, _ => rfl | 8, _ => rfl | 9, _ => rfl | 10, _ => rfl | 11, _ => rfl | 12, _ => rfl | 13, _ => rfl | 14, _ => rfl | 15, _ => rfl | 16, _ => rfl | 17, _ => rfl | 18, _ => rfl | 19, _ => rfl | 20, _ => rfl | 21, _ => rfl | 22, _ => rfl | 23, _ => rfl | 24, _ => rfl | 25, _ => rfl | 26, _ => rfl | 27, _ => rfl | 28, _ => rfl | 29, _ => rfl | n + 30, h => absurd h (by omega)
  refine ⟨.slice none 0 0, .slice none 0 0, [], ⟨(ec 2).trans (e30 2 (by omega)), (ec 3).trans (e30 3 (by omega)), fun o h _ _ => (ec o).trans (e30 o h), fun o => World.frozen?_alloc_new w _ T o, World.ownsRow_nil _ _ _ _, World.ownsRow_nil _ _ _ _, by simp, ?_, ?_, ?_⟩, rfl, rfl⟩
  · unfold Apt kblocks
    simp [Value.ownBlock]
  · intro p hp b e
    simp [kblocks, Value.ownBlock] at hp
    rcases hp with rfl | rfl
    · cases e; rfl
    · cases e
  · intro b q
    subst q; simp

/-- The heap, the reference and the book, side by side: w0 is the world at the begin. -/
structure PL (w0 w : World) (c r B : Nat) (W : List (Slot Int Int)) (W' : List (Slot Int Int)) (room : Int) (L : List (List Int)) (F G K : Nat → Prop) : Prop where
  h : II.CIs F w c room W
  g : RL.Is G w r W' room
  k : BK.Is K w B L
  glt : ∀ b, G b → b < w.heap.size
  fg : ∀ b, F b → ¬ G b
  fk : ∀ b, F b → ¬ K b
  gk : ∀ b, G b → ¬ K b
  fn : ∀ b, F b → w0.heap.size ≤ b
  gn : ∀ b, G b → w0.heap.size ≤ b
  kn : ∀ b, K b → w0.heap.size ≤ b
  below : Below w0.heap.size w0 w

section
variable {w0 w w' : World} {c r B : Nat} {W W' X : List (Slot Int Int)} {room : Int} {L M : List (List Int)} {F G K F' G' K' : Nat → Prop}

theorem PL.stepH (p : PL w0 w c r B W W' room L F G K) (h : II.CIs F' w' c room X) (o : Only F w w') (hF : ∀ b, F' b → F b ∨ w.heap.size ≤ b) : PL w0 w' c r B X W' room L F' G K := by
  have klt := p.k.klt
  have hs := p.below.size
  refine ⟨h, p.g.kept o (fun b q s => p.fg b s q), p.k.kept o (fun b q s => p.fk b s q), fun b q => Nat.lt_of_lt_of_le (p.glt b q) o.size, fun b q s => ?_, fun b q s => ?_, p.gk, fun b q => ?_, p.gn, p.kn, new_below p.below o p.fn⟩
  · rcases hF b q with e | e
    · exact p.fg b e s
    · have := p.glt b s; omega
  · rcases hF b q with e | e
    · exact p.fk b e s
    · have := klt b s; omega
  · rcases hF b q with e | e
    · exact p.fn b e
    · omega

theorem PL.stepG (p : PL w0 w c r B W W' room L F G K) (h : RL.Is G' w' r X room) (o : Only G w w') (hG : ∀ b, G' b → G b ∨ w.heap.size ≤ b) : PL w0 w' c r B W X room L F G' K := by
  have klt := p.k.klt
  have flt := p.h.flt
  have hs := p.below.size
  obtain ⟨v, hv⟩ := h
  refine ⟨p.h.kept o (fun b q s => p.fg b q s), ⟨v, hv⟩, p.k.kept o (fun b q s => p.gk b s q), hv.glt, fun b q s => ?_, p.fk, fun b q s => ?_, p.fn, fun b q => ?_, p.kn, new_below p.below o p.gn⟩
  · rcases hG b s with e | e
    · exact p.fg b q e
    · have := flt b q; omega
  · rcases hG b q with e | e
    · exact p.gk b e s
    · have := klt b s; omega
  · rcases hG b q with e | e
    · exact p.gn b e
    · omega

/-- A list that was just answered is kept. -/
theorem PL.stepK {N : Nat} {v : Value} (p : PL w0 w c r B W W' room L F G K) (h : BK.Is K' w' B M) (o : Only K w w') (hK : ∀ b, K' b → K b ∨ v.ownBlock = some b ∨ w.heap.size ≤ b) (hv : ∀ b, v.ownBlock = some b → N ≤ b) (hF : ∀ b, F b → b < N) (hG : ∀ b, G b → b < N) (hN : w0.heap.size ≤ N) : PL w0 w' c r B W W' room M F G K' := by
  have glt := p.glt
  have flt := p.h.flt
  have hs := p.below.size
  refine ⟨p.h.kept o (fun b q s => p.fk b q s), p.g.kept o (fun b q s => p.gk b q s), h, fun b q => Nat.lt_of_lt_of_le (p.glt b q) o.size, p.fg, fun b q s => ?_, fun b q s => ?_, p.fn, p.gn, fun b q => ?_, new_below p.below o p.kn⟩
  · rcases hK b s with e | e | e
    · exact p.fk b q e
    · have := hv b e; have := hF b q; omega
    · have := flt b q; omega
  · rcases hK b s with e | e | e
    · exact p.gk b q e
    · have := hv b e; have := hG b q; omega
    · have := glt b q; omega
  · rcases hK b q with e | e | e
    · exact p.kn b e
    · have := hv b e; omega
    · omega

theorem PL.only (p : PL w0 w c r B W W' room L F G K) (o : Only (fun _ => False) w w') : PL w0 w' c r B W W' room L F G K :=
  ⟨p.h.kept o (fun _ _ q => q), p.g.kept o (fun _ _ q => q), p.k.kept o (fun _ _ q => q), fun b q => Nat.lt_of_lt_of_le (p.glt b q) o.size, p.fg, p.fk, p.gk, p.fn, p.gn, p.kn, new_below p.below o (fun _ q => q.elim)⟩

theorem PL.like (p : PL w0 w c r B W W' room L F G K) (hk : Like w' w) : PL w0 w' c r B W W' room L F G K := p.only (hk.only _)

/-- What is new is written. -/
theorem PL.new {S : Nat → Prop} {N : Nat} (p : PL w0 w c r B W W' room L F G K) (o : Only S w w') (hS : ∀ b, S b → N ≤ b) (hF : ∀ b, F b → b < N) (hG : ∀ b, G b → b < N) (hK : ∀ b, K b → b < N) (hN : w0.heap.size ≤ N) : PL w0 w' c r B W W' room L F G K :=
  ⟨p.h.kept o (fun b q s => by have := hS b s; have := hF b q; omega), p.g.kept o (fun b q s => by have := hS b s; have := hG b q; omega), p.k.kept o (fun b q s => by have := hS b s; have := hK b q; omega), fun b q => Nat.lt_of_lt_of_le (p.glt b q) o.size, p.fg, p.fk, p.gk, p.fn, p.gn, p.kn, new_below p.below o (fun b q => Nat.le_trans hN (hS b q))⟩
end

/-- What is told at each round's head. -/
def PLs (w0 w : World) (c r B k : Nat) (room : Int) : Prop := ∃ W L F G K, PL w0 w c r B W W room L F G K ∧ W.length ≤ k ∧ (W.length : Int) ≤ room ∧ (∀ s ∈ W, 0 ≤ s.pins ∧ s.pins ≤ k) ∧ L.length = k ∧ ∀ l ∈ L, l.length ≤ 1000

end Go.Proofs.YtdgnfdheofacgaaGreat
