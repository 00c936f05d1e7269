/- LruOrder, the plain law: what New, Put and Get make of a cache's list, against the list of keys that the statement keeps. No program. -/
import Derived.Test.YtdgnfdheofacgaaOwn
namespace Go.Proofs.Ytdgnfdheofacgaa

section
variable {β : Type}

/-- keys with one value, without pins -/
def mk (v : β) (l : List Int) : List (Slot Int β) := l.map fun k => ⟨k, v, 0⟩

theorem mk_keys (v : β) (l : List Int) : (mk v l).map (·.k) = l := by
  rw [mk, List.map_map]; exact List.map_id _
theorem mk_length (v : β) (l : List Int) : (mk v l).length = l.length := by simp [mk]
theorem mk_append (v : β) (l r : List Int) : mk v (l ++ r) = mk v l ++ mk v r := by simp [mk]
theorem mk_none (v : β) {l : List Int} {k : Int} (h : k ∉ l) : slotOf (mk v l) k = none :=
  slotOf_none fun s hs => by
    obtain ⟨q, hq, rfl⟩ := List.mem_map.1 hs
    exact fun e => h (e ▸ hq)

theorem mk_slot (v : β) {l : List Int} {k : Int} (hk : k ∈ l) : slotOf (mk v l) k = some ⟨k, v, 0⟩ := by
  induction l with
  | nil => cases hk
  | cons a r ih =>
    by_cases e : a = k
    · subst e; simp [mk, slotOf]
    · have : k ∈ r := by
        rcases List.mem_cons.1 hk with h | h
        · exact absurd h.symm e
        · exact h
      have ih := ih this
      simpa [mk, slotOf, e] using ih

theorem mk_without (v : β) (l : List Int) (k : Int) : without (mk v l) k = mk v (l.filter fun q => decide (q ≠ k)) := by
  induction l with
  | nil => rfl
  | cons a r ih =>
    by_cases e : a = k
    · simpa [mk, without, e] using ih
    · simpa [mk, without, e] using ih

/-- Put of a new key, where there is room. -/
theorem mk_put (v : β) {l : List Int} {k room : Int} (hk : k ∉ l) (h : (l.length : Int) < room) : putS room (mk v l) k v = (mk v (k :: l), none, true) := by
  have h1 := mk_none v hk
  have h2 : ¬ room = 0 := by omega
  have h3 : ¬ room ≤ ((mk v l).length : Int) := by rw [mk_length]; omega
  simp only [putS, h1, if_neg h2, if_neg h3]
  rfl

/-- Get of a key. -/
theorem mk_use (v : β) (l : List Int) (k : Int) : useS (mk v l) k = mk v (if k ∈ l then k :: l.filter (fun q => decide (q ≠ k)) else l) := by
  unfold useS
  by_cases h : k ∈ l
  · rw [mk_slot v h, if_pos h, mk_without]; rfl
  · rw [mk_none v h, if_neg h]

theorem mk_there (v : β) (l : List Int) (k : Int) : (slotOf (mk v l) k).isSome = decide (k ∈ l) := by
  by_cases h : k ∈ l
  · rw [mk_slot v h]; simp [h]
  · rw [mk_none v h]; simp [h]

/-- The last one goes, for a new key. -/
theorem mk_evict (v u : β) {top l : List Int} {x k room : Int} (hk : k ∉ top) (hkl : k ∉ l) (hkx : k ≠ x) (hx : x ∉ top) (hxl : x ∉ l) (h0 : room ≠ 0) (h : room ≤ ((top.length + l.length + 1 : Nat) : Int)) :
    putS room (mk u top ++ mk v (l ++ [x])) k u = (mk u (k :: top) ++ mk v l, some ⟨x, v, 0⟩, true) := by
  have h1 : slotOf (mk u top ++ mk v (l ++ [x])) k = none := slotOf_none fun s hs => by
    rcases List.mem_append.1 hs with hs | hs
    · obtain ⟨q, hq, rfl⟩ := List.mem_map.1 hs
      exact fun e => hk (e ▸ hq)
    · obtain ⟨q, hq, rfl⟩ := List.mem_map.1 hs
      intro e
      simp only at e
      subst e
      rcases List.mem_append.1 hq with hq | hq
      · exact hkl hq
      · exact hkx (by simpa using hq)
  have h2 : room ≤ ((mk u top ++ mk v (l ++ [x])).length : Int) := by simp only [List.length_append, mk_length, List.length_cons, List.length_nil]; omega
  have h3 : idleS (mk u top ++ mk v (l ++ [x])) = some ⟨x, v, 0⟩ := by
    rw [mk_append, ← List.append_assoc]
    exact idleS_mid (s := ⟨x, v, 0⟩) rfl (by simp)
  have h4 : without (mk u top ++ mk v (l ++ [x])) x = mk u top ++ mk v l := by
    have e : ∀ (z : β) (r : List Int), x ∉ r → without (mk z r) x = mk z r := fun z r hr => by
      rw [mk_without, List.filter_eq_self.2 (fun q hq => by simp only [decide_eq_true_eq]; exact fun e => hr (e ▸ hq))]
    have e2 : without (mk u top ++ mk v (l ++ [x])) x = without (mk u top) x ++ without (mk v (l ++ [x])) x := by simp [without]
    rw [e2, e u top hx, mk_append]
    have e3 : without (mk v l ++ mk v [x]) x = without (mk v l) x ++ without (mk v [x]) x := by simp [without]
    rw [e3, e v l hxl]
    simp [mk, without]
  simp only [putS, h1, if_neg h0, if_pos h2, h3, h4]
  rfl
end

/-- the numbers from 0 on -/
def upTo (n : Nat) : List Int := (List.range n).map Int.ofNat

theorem upTo_succ (n : Nat) : upTo (n + 1) = upTo n ++ [(n : Int)] := by simp [upTo, List.range_succ]
theorem mem_upTo {n : Nat} {k : Int} : k ∈ upTo n ↔ 0 ≤ k ∧ k < n := by
  simp only [upTo, List.mem_map, List.mem_range]
  constructor
  · rintro ⟨a, ha, rfl⟩; simp only [Int.ofNat_eq_natCast]; omega
  · rintro ⟨h1, h2⟩; exact ⟨k.toNat, by omega, by simp only [Int.ofNat_eq_natCast]; omega⟩
theorem upTo_length (n : Nat) : (upTo n).length = n := by simp [upTo]

/-- the order of use: the least used first; all of 0 .. n-1 -/
structure Order (n : Nat) (l : List Int) : Prop where
  nd : l.Nodup
  mem : ∀ k, k ∈ l ↔ 0 ≤ k ∧ k < n
  len : l.length = n

theorem Order.start (n : Nat) : Order n (upTo n) := by
  refine ⟨?_, fun k => mem_upTo, upTo_length n⟩
  unfold upTo
  rw [List.Nodup, List.pairwise_map]
  exact List.nodup_range.imp fun h e => h (Int.ofNat.inj e)

/-- k was used. -/
theorem Order.use {n : Nat} {l : List Int} (h : Order n l) {k : Int} (hk : k ∈ l) : Order n (l.filter (fun q => decide (q ≠ k)) ++ [k]) := by
  have hp : (k :: l.filter (fun q => decide (q ≠ k))).Perm l := by
    have e : l.filter (fun q => decide (q ≠ k)) = l.erase k := by
      rw [List.Nodup.erase_eq_filter h.nd]
      exact List.filter_congr fun q _ => by by_cases e : q = k <;> simp [e]
    rw [e]; exact (List.perm_cons_erase hk).symm
  have hp2 : (l.filter (fun q => decide (q ≠ k)) ++ [k]).Perm l := (List.perm_append_comm.trans (by simpa using hp))
  exact ⟨hp2.nodup_iff.2 h.nd, fun q => (hp2.mem_iff).trans (h.mem q), hp2.length_eq.trans h.len⟩

theorem take_filter {l : List Int} {p : Int → Bool} {q : Nat} (h : q < l.length) : (l.take (q + 1)).filter p = (l.take q).filter p ++ if p l[q] then [l[q]] else [] := by
  rw [List.take_succ_eq_append_getElem h, List.filter_append]
  by_cases e : p l[q] <;> simp [e]

/-- the keys that came in the place of the elder ones, the last one first -/
def tops (q : Nat) : List Int := ((upTo q).map (1000 + ·)).reverse
theorem tops_length (q : Nat) : (tops q).length = q := by simp [tops, upTo_length]
theorem tops_succ (q : Nat) : tops (q + 1) = (1000 + (q : Int)) :: tops q := by simp [tops, upTo_succ]
theorem mem_tops {q : Nat} {k : Int} : k ∈ tops q ↔ 1000 ≤ k ∧ k < 1000 + q := by
  simp only [tops, List.mem_reverse, List.mem_map]
  constructor
  · rintro ⟨a, ha, rfl⟩; have := mem_upTo.1 ha; omega
  · rintro ⟨h1, h2⟩; exact ⟨k - 1000, mem_upTo.2 (by omega), by omega⟩

/-- One round of the last loop. -/
theorem last_evict {β : Type} {v u : β} {n : Nat} {l : List Int} (h : Order n l) {q : Nat} (hq : q < l.length) (hn : n ≤ 20) :
    putS (n : Int) (mk u (tops q) ++ mk v (l.drop q).reverse) (1000 + (q : Int)) u = (mk u (tops (q + 1)) ++ mk v (l.drop (q + 1)).reverse, some ⟨l[q], v, 0⟩, true) := by
  have hx := (h.mem l[q]).1 (List.getElem_mem hq)
  have hlen := h.len
  have hnd : (l.drop q).Nodup := (List.drop_sublist q l).nodup h.nd
  rw [List.drop_eq_getElem_cons hq] at hnd ⊢
  rw [List.reverse_cons, tops_succ]
  refine mk_evict v u ?_ ?_ ?_ ?_ ?_ ?_ ?_
  · rw [mem_tops]; omega
  · intro hm
    have := (h.mem _).1 (List.mem_of_mem_drop (List.mem_reverse.1 hm))
    omega
  · omega
  · rw [mem_tops]; omega
  · rw [List.mem_reverse]; exact (List.nodup_cons.1 hnd).1
  · omega
  · rw [tops_length, List.length_reverse, List.length_drop]; omega

theorem filter_reverse' (l : List Int) (p : Int → Bool) : (l.filter p).reverse = l.reverse.filter p := by rw [List.filter_reverse]

end Go.Proofs.Ytdgnfdheofacgaa
