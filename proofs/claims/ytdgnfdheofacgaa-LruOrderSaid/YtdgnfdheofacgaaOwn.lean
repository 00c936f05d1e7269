/- Plain facts on slices that the call itself has made ('ownsRow') beside other memory ('Only'); on what Put does to a cache's list ('putS'). No program. -/
import Derived.Test.YtdgnfdheofacgaaLruAt
import Derived.Maps.AppendAt
namespace Go.Proofs.Ytdgnfdheofacgaa
open Go.RowKit

theorem ownsRow_only {S : Nat → Prop} {w w' : World} {base : Nat} {e : TypeId} {size : Nat} {v : Value} {n : Nat} {xs : List Value} (h : w.ownsRow base e size v n xs) (o : Only S w w') (hS : ∀ b, v.ownBlock = some b → ¬ S b) : w'.ownsRow base e size v n xs := by
  obtain ⟨h1, h2⟩ := h
  refine ⟨h1, ?_⟩
  rcases h2 with h2 | ⟨g, cap, cur, rfl, hg, hh, r⟩
  · exact .inl h2
  · exact .inr ⟨g, cap, cur, rfl, hg, (o.block g (lt_of_map hh) (hS g rfl)).trans hh, r⟩

theorem own_form {w : World} {base : Nat} {e : TypeId} {size : Nat} {v : Value} {n : Nat} {xs : List Value} (h : w.ownsRow base e size v n xs) (hn : 0 < n) : ∃ g cap, v = .slice (some ⟨g, 0, none⟩) n cap := by
  rcases h.2 with ⟨_, q⟩ | ⟨g, cap, cur, rfl, _⟩
  · omega
  · exact ⟨g, cap, rfl⟩

theorem own_shape {w : World} {base : Nat} {e : TypeId} {size : Nat} {v : Value} {n : Nat} {xs : List Value} (h : w.ownsRow base e size v n xs) : ∃ a cap, v = .slice a n cap := by
  rcases h.2 with ⟨rfl, rfl⟩ | ⟨g, cap, cur, rfl, _⟩
  · exact ⟨none, 0, rfl⟩
  · exact ⟨_, cap, rfl⟩

theorem only_of_grown {w w' : World} {row : Option Nat} (h : w.grownBy w' row) : Only (fun b => some b = row) w w' :=
  ⟨h.os, h.tape, h.output, h.size, fun b hb hs => h.block b hb hs⟩

section
variable {α β : Type} [DecidableEq α] {S : List (Slot α β)} {room : Int} {k : α} {v : β}

theorem slotOf_some {s : Slot α β} (h : slotOf S k = some s) : s ∈ S ∧ s.k = k := by
  have h1 := List.mem_of_find?_eq_some h
  have h2 := List.find?_some h
  exact ⟨h1, by simpa using h2⟩

theorem slotOf_isNone (h : slotOf S k = none) : ∀ s ∈ S, s.k ≠ k := by
  intro s hs e
  have := List.find?_eq_none.1 h s hs
  simp [e] at this

theorem slotOf_mem (hn : (S.map (·.k)).Nodup) {s : Slot α β} (hs : s ∈ S) : slotOf S s.k = some s := by
  obtain ⟨A, B, rfl⟩ := List.append_of_mem hs
  exact slotOf_mid hn

omit [DecidableEq α] in
theorem idleS_some {s : Slot α β} (h : idleS S = some s) : s ∈ S ∧ s.pins = 0 := by
  have h1 := List.mem_of_find?_eq_some h
  have h2 := List.find?_some h
  exact ⟨List.mem_reverse.1 h1, by simpa using h2⟩

theorem mem_without {s : Slot α β} : s ∈ without S k ↔ s ∈ S ∧ s.k ≠ k := by simp [without]

theorem without_length (hn : (S.map (·.k)).Nodup) {s : Slot α β} (hs : s ∈ S) : (without S s.k).length + 1 = S.length := by
  obtain ⟨A, B, rfl⟩ := List.append_of_mem hs
  rw [without_mid hn]; simp; omega

/-- The ways of Put. -/
theorem putS_cases (room : Int) (S : List (Slot α β)) (k : α) (v : β) :
    (∃ s, slotOf S k = some s ∧ putS room S k v = ({ s with v := v } :: without S k, none, true)) ∨
    (slotOf S k = none ∧ ((putS room S k v = (S, none, false) ∧ (room = 0 ∨ room ≤ S.length ∧ idleS S = none)) ∨
      (room ≠ 0 ∧ room ≤ S.length ∧ ∃ x, idleS S = some x ∧ putS room S k v = (⟨k, v, 0⟩ :: without S x.k, some x, true)) ∨
      (room ≠ 0 ∧ ¬ room ≤ S.length ∧ putS room S k v = (⟨k, v, 0⟩ :: S, none, true)))) := by
  unfold putS
  cases h : slotOf S k with
  | some s => exact .inl ⟨s, rfl, rfl⟩
  | none =>
    refine .inr ⟨rfl, ?_⟩
    by_cases h0 : room = 0
    · exact .inl ⟨by simp [h0], .inl h0⟩
    · by_cases h1 : room ≤ S.length
      · cases h2 : idleS S with
        | none => exact .inl ⟨by simp [h0, h1], .inr ⟨h1, rfl⟩⟩
        | some x => exact .inr (.inl ⟨h0, h1, x, rfl, by simp [h0, h1]⟩)
      · exact .inr (.inr ⟨h0, h1, by simp [h0, h1]⟩)

/-- It is done just if the key is there then. -/
theorem putS_done (room : Int) (S : List (Slot α β)) (k : α) (v : β) : (slotOf (putS room S k v).1 k).isSome = (putS room S k v).2.2 := by
  rcases putS_cases room S k v with ⟨s, hs, e⟩ | ⟨hs, ⟨e, _⟩ | ⟨_, _, x, _, e⟩ | ⟨_, _, e⟩⟩
  · rw [e]; simp [slotOf, (slotOf_some hs).2]
  · rw [e]; simp [hs]
  · rw [e]; simp [slotOf]
  · rw [e]; simp [slotOf]

theorem putS_was (h : (slotOf S k).isSome = true) : (putS room S k v).2.2 = true := by
  rcases putS_cases room S k v with ⟨s, hs, e⟩ | ⟨hs, _⟩
  · rw [e]
  · rw [hs] at h; cases h

theorem putS_length (hn : (S.map (·.k)).Nodup) (h : (S.length : Int) ≤ room) : ((putS room S k v).1.length : Int) ≤ room := by
  rcases putS_cases room S k v with ⟨s, hs, e⟩ | ⟨hs, ⟨e, _⟩ | ⟨_, _, x, hx, e⟩ | ⟨_, _, e⟩⟩
  · rw [e]
    have := without_length hn (slotOf_some hs).1
    rw [(slotOf_some hs).2] at this
    simp only [List.length_cons]; omega
  · rw [e]; exact h
  · rw [e]
    have := without_length hn (idleS_some hx).1
    simp only [List.length_cons]; omega
  · rw [e]; simp only [List.length_cons]; omega

/-- What goes is another key. -/
theorem putS_goes {x : Slot α β} (h : (putS room S k v).2.1 = some x) : x ∈ S ∧ x.pins = 0 ∧ x.k ≠ k := by
  rcases putS_cases room S k v with ⟨s, hs, e⟩ | ⟨hs, ⟨e, _⟩ | ⟨_, _, y, hy, e⟩ | ⟨_, _, e⟩⟩
  · rw [e] at h; cases h
  · rw [e] at h; cases h
  · rw [e] at h; cases h
    exact ⟨(idleS_some hy).1, (idleS_some hy).2, slotOf_isNone hs _ (idleS_some hy).1⟩
  · rw [e] at h; cases h

/-- Who is there then, and with which pins. -/
theorem putS_mem {s : Slot α β} (h : s ∈ (putS room S k v).1) : (s.k = k ∧ (s.pins = 0 ∨ ∃ t ∈ S, t.k = k ∧ t.pins = s.pins)) ∨ s ∈ S := by
  rcases putS_cases room S k v with ⟨t, ht, e⟩ | ⟨hs, ⟨e, _⟩ | ⟨_, _, y, hy, e⟩ | ⟨_, _, e⟩⟩
  · rw [e] at h
    rcases List.mem_cons.1 h with rfl | h
    · exact .inl ⟨(slotOf_some ht).2, .inr ⟨t, (slotOf_some ht).1, (slotOf_some ht).2, rfl⟩⟩
    · exact .inr (mem_without.1 h).1
  · rw [e] at h; exact .inr h
  · rw [e] at h
    rcases List.mem_cons.1 h with rfl | h
    · exact .inl ⟨rfl, .inl rfl⟩
    · exact .inr (mem_without.1 h).1
  · rw [e] at h
    rcases List.mem_cons.1 h with rfl | h
    · exact .inl ⟨rfl, .inl rfl⟩
    · exact .inr h

/-- Who is pinned stays, with its pins. -/
theorem putS_stays (hn : (S.map (·.k)).Nodup) {s : Slot α β} (hs : s ∈ S) (hp : s.pins ≠ 0) : ∃ t ∈ (putS room S k v).1, t.k = s.k ∧ t.pins = s.pins := by
  rcases putS_cases room S k v with ⟨t, ht, e⟩ | ⟨hno, ⟨e, _⟩ | ⟨_, _, y, hy, e⟩ | ⟨_, _, e⟩⟩
  · rw [e]
    by_cases hk : s.k = k
    · have : t = s := by
        have h1 := slotOf_mem hn hs
        rw [hk, ht] at h1
        exact Option.some.inj h1
      subst this
      exact ⟨_, List.mem_cons_self, rfl, rfl⟩
    · exact ⟨s, List.mem_cons_of_mem _ (mem_without.2 ⟨hs, hk⟩), rfl, rfl⟩
  · rw [e]; exact ⟨s, hs, rfl, rfl⟩
  · rw [e]
    refine ⟨s, List.mem_cons_of_mem _ (mem_without.2 ⟨hs, fun q => ?_⟩), rfl, rfl⟩
    have h1 := slotOf_mem hn hs
    have h2 := slotOf_mem hn (idleS_some hy).1
    rw [q, h2] at h1
    have := Option.some.inj h1
    subst this
    exact hp (idleS_some hy).2
  · rw [e]; exact ⟨s, List.mem_cons_of_mem _ hs, rfl, rfl⟩

end
/-- 'xs = append(xs, x)' onto a slice of the call's own, x of one cell, as the walk meets it: x lies in a block that has just been made. -/
theorem wpList_append_one {P : Program} {w : World} {ops : Array Oper} {rest : List Oper} {o : Oper} {a : Act} {Q : Exit → Act → World → Prop} (hgd : o.guard = none) (s y : Operand) (t : TypeId)
    (ho : o.op = .call { callee := .builtin .append, args := #[s, y], argTypes := #[t, t] })
    (base : Nat) (e : TypeId) (z : Value) (bytes : Nat) (ht : P.underlying t = some (.slice e)) (hi : (P.info? e).map (fun i => (i.zero, i.size, i.bytes)) = some (some z, 1, bytes)) (hzs : z.cells.size = 1)
    (v : Value) (n : Nat) (xs : List Value) (hs : a.eval s = v) (hown : w.ownsRow base e 1 v n xs) (x : Value) (c : Nat) (hy : a.eval y = .slice (some ⟨w.heap.size, 0, none⟩) 1 c) (hx : x.oneCell' = true)
    (hbytes : (n + 1) * bytes ≤ 140737488355328) (hb0 : 0 < bytes) (hbase : base ≤ w.heap.size)
    (h : ∀ v' w', w'.ownsRow base e 1 v' (n + 1) (xs ++ [x]) → Only (fun b => v.ownBlock = some b) w w' → (∀ b, v'.ownBlock = some b → v.ownBlock = some b ∨ w.heap.size ≤ b) → wpList P ops Q rest (a.put o.dst v') w') :
    wpList P ops Q (o :: rest) a (w.alloc (.cells #[x] e)) := by
  obtain ⟨i, hi, hz, hsz, hby⟩ := info_parts hi
  have hle : n + 1 ≤ 140737488355328 := Nat.le_trans (Nat.le_mul_of_pos_right _ hb0) hbytes
  refine wpList_append_own_at _ hgd s y t ho base e i z 1 bytes ht hi hz hsz hby hzs (by decide) v n xs hs (hown.alloc _) ⟨w.heap.size, 0, none⟩ 1 c [x] hy rfl (cell_one_new _ _ _)
    (fun u hu => by simp at hu; subst hu; exact hx) (by unfold maxLen; omega) hbytes (by simp; omega) ?_
  intro v' w' h1 h2 _ h4
  refine h v' w' h1 ((Only.alloc _ w _).trans ((only_of_grown h2).mono fun b _ q => q.symm)) fun b q => ?_
  rcases h4 with e | e
  · exact .inl (e.symm.trans q)
  · rw [e] at q
    simp only [World.size_alloc, Option.some.injEq] at q
    exact .inr (by omega)

end Go.Proofs.Ytdgnfdheofacgaa
