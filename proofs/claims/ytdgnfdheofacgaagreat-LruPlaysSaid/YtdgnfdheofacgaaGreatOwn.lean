/- Plain facts on what Put does to a cache's list ('putS'). No program. -/
import Derived.Test.YtdgnfdheofacgaaGreatLruAt
import Derived.Test.YtdgnfdheofacgaaGreatRow
namespace Go.Proofs.YtdgnfdheofacgaaGreat

section
variable {α β : Type} [DecidableEq α] {S : List (Slot α β)} {room : Int} {k : α} {v : β}

theorem slotOf_some {s : Slot α β} (h : slotOf S k = some s) : s ∈ S ∧ s.k = k := by
  have h1 := List.mem_of_find?_eq_some h
  have h2 := List.find?_some h
  exact ⟨h1, by simpa using h2⟩

theorem slotOf_isNone (h : slotOf S k = none) : ∀ s ∈ S, s.k ≠ k := by
  intro s hs e
  have := List.find?_eq_none.1 h s hs
  simp [e] at this

theorem slotOf_mem (hn : (S.map (·.k)).Nodup) {s : Slot α β} (hs : s ∈ S) : slotOf S s.k = some s := by
  obtain ⟨A, B, rfl⟩ := List.append_of_mem hs
  exact slotOf_mid hn

omit [DecidableEq α] in
theorem idleS_some {s : Slot α β} (h : idleS S = some s) : s ∈ S ∧ s.pins = 0 := by
  have h1 := List.mem_of_find?_eq_some h
  have h2 := List.find?_some h
  exact ⟨List.mem_reverse.1 h1, by simpa using h2⟩

theorem mem_without {s : Slot α β} : s ∈ without S k ↔ s ∈ S ∧ s.k ≠ k := by simp [without]

theorem without_length (hn : (S.map (·.k)).Nodup) {s : Slot α β} (hs : s ∈ S) : (without S s.k).length + 1 = S.length := by
  obtain ⟨A, B, rfl⟩ := List.append_of_mem hs
  rw [without_mid hn]; simp; omega

/-- The ways of Put. -/
theorem putS_cases (room : Int) (S : List (Slot α β)) (k : α) (v : β) :
    (∃ s, slotOf S k = some s ∧ putS room S k v = ({ s with v := v } :: without S k, none, true)) ∨
    (slotOf S k = none ∧ ((putS room S k v = (S, none, false) ∧ (room = 0 ∨ room ≤ S.length ∧ idleS S = none)) ∨
      (room ≠ 0 ∧ room ≤ S.length ∧ ∃ x, idleS S = some x ∧ putS room S k v = (⟨k, v, 0⟩ :: without S x.k, some x, true)) ∨
      (room ≠ 0 ∧ ¬ room ≤ S.length ∧ putS room S k v = (⟨k, v, 0⟩ :: S, none, true)))) := by
  unfold putS
  cases h : slotOf S k with
  | some s => exact .inl ⟨s, rfl, rfl⟩
  | none =>
    refine .inr ⟨rfl, ?_⟩
    by_cases h0 : room = 0
    · exact .inl ⟨by simp [h0], .inl h0⟩
    · by_cases h1 : room ≤ S.length
      · cases h2 : idleS S with
        | none => exact .inl ⟨by simp [h0, h1], .inr ⟨h1, rfl⟩⟩
        | some x => exact .inr (.inl ⟨h0, h1, x, rfl, by simp [h0, h1]⟩)
      · exact .inr (.inr ⟨h0, h1, by simp [h0, h1]⟩)

/-- It is done just if the key is there then. -/
theorem putS_done (room : Int) (S : List (Slot α β)) (k : α) (v : β) : (slotOf (putS room S k v).1 k).isSome = (putS room S k v).2.2 := by
  rcases putS_cases room S k v with ⟨s, hs, e⟩ | ⟨hs, ⟨e, _⟩ | ⟨_, _, x, _, e⟩ | ⟨_, _, e⟩⟩
  · rw [e]; simp [slotOf, (slotOf_some hs).2]
  · rw [e]; simp [hs]
  · rw [e]; simp [slotOf]
  · rw [e]; simp [slotOf]

theorem putS_was (h : (slotOf S k).isSome = true) : (putS room S k v).2.2 = true := by
  rcases putS_cases room S k v with ⟨s, hs, e⟩ | ⟨hs, _⟩
  · rw [e]
  · rw [hs] at h; cases h

theorem putS_length (hn : (S.map (·.k)).Nodup) (h : (S.length : Int) ≤ room) : ((putS room S k v).1.length : Int) ≤ room := by
  rcases putS_cases room S k v with ⟨s, hs, e⟩ | ⟨hs, ⟨e, _⟩ | ⟨_, _, x, hx, e⟩ | ⟨_, _, e⟩⟩
  · rw [e]
    have := without_length hn (slotOf_some hs).1
    rw [(slotOf_some hs).2] at this
    simp only [List.length_cons]; omega
  · rw [e]; exact h
  · rw [e]
    have := without_length hn (idleS_some hx).1
    simp only [List.length_cons]; omega
  · rw [e]; simp only [List.length_cons]; omega

/-- What goes is another key. -/
theorem putS_goes {x : Slot α β} (h : (putS room S k v).2.1 = some x) : x ∈ S ∧ x.pins = 0 ∧ x.k ≠ k := by
  rcases putS_cases room S k v with ⟨s, hs, e⟩ | ⟨hs, ⟨e, _⟩ | ⟨_, _, y, hy, e⟩ | ⟨_, _, e⟩⟩
  · rw [e] at h; cases h
  · rw [e] at h; cases h
  · rw [e] at h; cases h
    exact ⟨(idleS_some hy).1, (idleS_some hy).2, slotOf_isNone hs _ (idleS_some hy).1⟩
  · rw [e] at h; cases h

/-- Who is there then, and with which pins. -/
theorem putS_mem {s : Slot α β} (h : s ∈ (putS room S k v).1) : (s.k = k ∧ (s.pins = 0 ∨ ∃ t ∈ S, t.k = k ∧ t.pins = s.pins)) ∨ s ∈ S := by
  rcases putS_cases room S k v with ⟨t, ht, e⟩ | ⟨hs, ⟨e, _⟩ | ⟨_, _, y, hy, e⟩ | ⟨_, _, e⟩⟩
  · rw [e] at h
    rcases List.mem_cons.1 h with rfl | h
    · exact .inl ⟨(slotOf_some ht).2, .inr ⟨t, (slotOf_some ht).1, (slotOf_some ht).2, rfl⟩⟩
    · exact .inr (mem_without.1 h).1
  · rw [e] at h; exact .inr h
  · rw [e] at h
    rcases List.mem_cons.1 h with rfl | h
    · exact .inl ⟨rfl, .inl rfl⟩
    · exact .inr (mem_without.1 h).1
  · rw [e] at h
    rcases List.mem_cons.1 h with rfl | h
    · exact .inl ⟨rfl, .inl rfl⟩
    · exact .inr h

/-- Who is pinned stays, with its pins. -/
theorem putS_stays (hn : (S.map (·.k)).Nodup) {s : Slot α β} (hs : s ∈ S) (hp : s.pins ≠ 0) : ∃ t ∈ (putS room S k v).1, t.k = s.k ∧ t.pins = s.pins := by
  rcases putS_cases room S k v with ⟨t, ht, e⟩ | ⟨hno, ⟨e, _⟩ | ⟨_, _, y, hy, e⟩ | ⟨_, _, e⟩⟩
  · rw [e]
    by_cases hk : s.k = k
    · have : t = s := by
        have h1 := slotOf_mem hn hs
        rw [hk, ht] at h1
        exact Option.some.inj h1
      subst this
      exact ⟨_, List.mem_cons_self, rfl, rfl⟩
    · exact ⟨s, List.mem_cons_of_mem _ (mem_without.2 ⟨hs, hk⟩), rfl, rfl⟩
  · rw [e]; exact ⟨s, hs, rfl, rfl⟩
  · rw [e]
    refine ⟨s, List.mem_cons_of_mem _ (mem_without.2 ⟨hs, fun q => ?_⟩), rfl, rfl⟩
    have h1 := slotOf_mem hn hs
    have h2 := slotOf_mem hn (idleS_some hy).1
    rw [q, h2] at h1
    have := Option.some.inj h1
    subst this
    exact hp (idleS_some hy).2
  · rw [e]; exact ⟨s, List.mem_cons_of_mem _ hs, rfl, rfl⟩

end

end Go.Proofs.YtdgnfdheofacgaaGreat
