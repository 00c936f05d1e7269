/- Plain facts about a cache of package lru in memory, of no program: its blocks ('Core', 'LruIs'), and what the code's stores do to it. nv: how many cells a value has. -/
import Derived.Test.YtdgnfdheofacgaaGreatRing
namespace Go.Proofs.YtdgnfdheofacgaaGreat
open Go.MapKept

/-- A key with its value and its pins. -/
structure Slot (α β : Type) where
  k : α
  v : β
  pins : Int

/-- .. and the block of its node. -/
structure Nd (α β : Type) where
  b : Nat
  s : Slot α β

def Nd.pl {α β : Type} (x : Nd α β) : Pl := (x.b, 0)

section
variable {α β : Type} (K : α → Value) (V : β → Nat → Value) (nv : Nat)

structure NodeAt (w : World) (x : Nd α β) : Prop where
  key : w.cell? ⟨x.b, 0, none⟩ = some (K x.s.k)
  val : ∀ i, i < nv → w.cell? ⟨x.b, 1 + i, none⟩ = some (V x.s.v i)
  pins : w.cell? ⟨x.b, nv + 1, none⟩ = some (.int .i64 x.s.pins)
  prev : ∃ a, w.cell? ⟨x.b, nv + 2, none⟩ = some (.pointer a)
  next : ∃ a, w.cell? ⟨x.b, nv + 3, none⟩ = some (.pointer a)
  free : ∀ o, w.frozen? ⟨x.b, o, none⟩ = false

structure Base (w : World) (c M : Nat) (room : Int) : Prop where
  m : w.cell? ⟨c, 0, none⟩ = some (.map (some M))
  room : w.cell? ⟨c, nv + 5, none⟩ = some (.int .i64 room)
  free : ∀ o, w.frozen? ⟨c, o, none⟩ = false

def round (c : Nat) (L : List (Nd α β)) : List Pl := (c, 1) :: (L.map Nd.pl ++ [(c, 1)])

structure Core (w : World) (c M : Nat) (room : Int) (L : List (Nd α β)) : Prop where
  base : Base nv w c M room
  path : Path (nv + 2) (nv + 3) w (round c L)
  nodes : ∀ x ∈ L, NodeAt K V nv w x
  nd : (c :: L.map (·.b)).Nodup

/-- where a node or the head may begin -/
def Pos (c : Nat) (p : Pl) : Prop := (p.1 = c → p.2 = 1) ∧ (p.1 ≠ c → p.2 = 0)

variable {K V nv}

theorem NodeAt.of_heap {w w' : World} {x : Nd α β} (h : NodeAt K V nv w x) (hb : w'.heap[x.b]? = w.heap[x.b]?) : NodeAt K V nv w' x := by
  have e : ∀ o, w'.cell? ⟨x.b, o, none⟩ = w.cell? ⟨x.b, o, none⟩ := fun o => World.cell?_of_block (w := w) hb
  have f : ∀ o, w'.frozen? ⟨x.b, o, none⟩ = w.frozen? ⟨x.b, o, none⟩ := fun o => World.frozen?_of_block (w := w) hb
  exact ⟨(e _).trans h.key, fun i hi => (e _).trans (h.val i hi), (e _).trans h.pins, h.prev.imp fun _ q => (e _).trans q, h.next.imp fun _ q => (e _).trans q, fun o => (f o).trans (h.free o)⟩

theorem NodeAt.set {w : World} {x : Nd α β} (h : NodeAt K V nv w x) {a : Addr} (u : Option Addr) (ha : a.block = x.b → a.spot = none ∧ (a.off = nv + 2 ∨ a.off = nv + 3)) :
    NodeAt K V nv (w.setCell a (.pointer u)) x := by
  have e : ∀ o, o ≠ nv + 2 → o ≠ nv + 3 → (w.setCell a (.pointer u)).cell? ⟨x.b, o, none⟩ = w.cell? ⟨x.b, o, none⟩ := fun o h1 h2 => cell_set_ne _ (fun q => by
    subst q
    rcases (ha rfl).2 with q | q
    · exact h1 q
    · exact h2 q)
  have g : ∀ o, (∃ z, w.cell? ⟨x.b, o, none⟩ = some (.pointer z)) → ∃ z, (w.setCell a (.pointer u)).cell? ⟨x.b, o, none⟩ = some (.pointer z) := fun o ⟨z, hz⟩ => by
    by_cases q : (⟨x.b, o, none⟩ : Addr) = a
    · subst q; exact ⟨u, World.cell?_setCell_same _ _ _ hz⟩
    · exact ⟨z, (cell_set_ne _ q).trans hz⟩
  exact ⟨(e _ (by omega) (by omega)).trans h.key, fun i hi => (e _ (by omega) (by omega)).trans (h.val i hi), (e _ (by omega) (by omega)).trans h.pins, g _ h.prev, g _ h.next, fun o => (World.frozen?_setCell ..).trans (h.free o)⟩

theorem Base.set {w : World} {c M : Nat} {room : Int} (h : Base nv w c M room) {a : Addr} (u : Value) (ha : a.block = c → a.off ≠ 0 ∧ a.off ≠ nv + 5) : Base nv (w.setCell a u) c M room := by
  have e : ∀ o, (o = 0 ∨ o = nv + 5) → (w.setCell a u).cell? ⟨c, o, none⟩ = w.cell? ⟨c, o, none⟩ := fun o ho => cell_set_ne _ (fun q => by
    subst q
    rcases ho with q | q
    · exact (ha rfl).1 q
    · exact (ha rfl).2 q)
  exact ⟨(e _ (.inl rfl)).trans h.m, (e _ (.inr rfl)).trans h.room, fun o => (World.frozen?_setCell ..).trans (h.free o)⟩

theorem Base.of_heap {w w' : World} {c M : Nat} {room : Int} (h : Base nv w c M room) (hb : w'.heap[c]? = w.heap[c]?) : Base nv w' c M room := by
  have e : ∀ o, w'.cell? ⟨c, o, none⟩ = w.cell? ⟨c, o, none⟩ := fun o => World.cell?_of_block (w := w) hb
  have f : ∀ o, w'.frozen? ⟨c, o, none⟩ = w.frozen? ⟨c, o, none⟩ := fun o => World.frozen?_of_block (w := w) hb
  exact ⟨(e _).trans h.m, (e _).trans h.room, fun o => (f o).trans (h.free o)⟩

theorem mem_round {c : Nat} {L : List (Nd α β)} {p : Pl} : p ∈ round c L ↔ p = (c, 1) ∨ ∃ x ∈ L, p = x.pl := by
  simp only [round, List.mem_cons, List.mem_append, List.mem_map, List.mem_nil_iff, or_false]
  constructor
  · rintro (h | ⟨x, hx, rfl⟩ | h)
    · exact .inl h
    · exact .inr ⟨x, hx, rfl⟩
    · exact .inl h
  · rintro (h | ⟨x, hx, rfl⟩)
    · exact .inl h
    · exact .inr (.inl ⟨x, hx, rfl⟩)

theorem pos_of {c : Nat} {L : List (Nd α β)} (hc : c ∉ L.map (·.b)) {p : Pl} (hp : p ∈ round c L) : Pos c p := by
  rcases mem_round.1 hp with rfl | ⟨x, hx, rfl⟩
  · exact ⟨fun _ => rfl, fun h => absurd rfl h⟩
  · exact ⟨fun h => absurd (List.mem_map.2 ⟨x, hx, h⟩) hc, fun _ => rfl⟩

theorem inj_b {L : List (Nd α β)} (h : (L.map (·.b)).Nodup) {x y : Nd α β} (hx : x ∈ L) (hy : y ∈ L) (e : x.b = y.b) : x = y := by
  induction L with
  | nil => cases hx
  | cons z r ih =>
    simp only [List.map_cons, List.nodup_cons] at h
    rcases List.mem_cons.1 hx with hx' | hx'
    · rcases List.mem_cons.1 hy with hy' | hy'
      · rw [hx', hy']
      · exact (h.1 (List.mem_map.2 ⟨y, hy', e.symm.trans (congrArg _ hx')⟩)).elim
    · rcases List.mem_cons.1 hy with hy' | hy'
      · exact (h.1 (List.mem_map.2 ⟨x, hx', e.trans (congrArg _ hy')⟩)).elim
      · exact ih h.2 hx' hy'

theorem apart_of {c : Nat} {L : List (Nd α β)} (hn : (c :: L.map (·.b)).Nodup) {l : List Pl} (hl : ∀ p ∈ l, p ∈ round c L) : Apart l := by
  intro a ha b hb e
  have hc := (List.nodup_cons.1 hn).1
  rcases mem_round.1 (hl a ha) with rfl | ⟨x, hx, rfl⟩ <;> rcases mem_round.1 (hl b hb) with rfl | ⟨y, hy, rfl⟩
  · rfl
  · exact absurd (List.mem_map.2 ⟨y, hy, e.symm⟩) hc
  · exact absurd (List.mem_map.2 ⟨x, hx, e⟩) hc
  · exact congrArg Nd.pl (inj_b (List.nodup_cons.1 hn).2 hx hy e)

theorem nodup_pl {c : Nat} {L : List (Nd α β)} (hn : (c :: L.map (·.b)).Nodup) : (((c, 1) : Pl) :: L.map Nd.pl).Nodup := by
  rw [List.nodup_cons] at hn ⊢
  refine ⟨fun h => ?_, ?_⟩
  · obtain ⟨x, hx, e⟩ := List.mem_map.1 h
    exact hn.1 (List.mem_map.2 ⟨x, hx, congrArg Prod.fst e⟩)
  · have h2 := hn.2
    rw [List.Nodup, List.pairwise_map] at h2 ⊢
    exact h2.imp fun h e => h (congrArg Prod.fst e)

theorem path_of_heap {pv nx : Nat} {w w' : World} (h : w'.heap = w.heap) {l : List Pl} (hp : Path pv nx w l) : Path pv nx w' l :=
  path_congr pv nx l (fun _ _ => cell_of_heap h _) (fun _ _ => cell_of_heap h _) hp

theorem Core.of_heap {w w' : World} {c M : Nat} {room : Int} {L : List (Nd α β)} (h : Core K V nv w c M room L) (e : w'.heap = w.heap) : Core K V nv w' c M room L :=
  ⟨h.base.of_heap (by rw [e]), path_of_heap e h.path, fun x hx => (h.nodes x hx).of_heap (by rw [e]), h.nd⟩

/-- The same blocks: the same cache. -/
theorem Core.kept {w w' : World} {c M : Nat} {room : Int} {L : List (Nd α β)} (h : Core K V nv w c M room L) (e : ∀ b, b = c ∨ b ∈ L.map (·.b) → w'.heap[b]? = w.heap[b]?) : Core K V nv w' c M room L := by
  have hx : ∀ p ∈ round c L, ∀ o, w'.cell? (p.ad o) = w.cell? (p.ad o) := fun p hp o => World.cell?_of_block (w := w) (by
    rcases mem_round.1 hp with rfl | ⟨x, hx, rfl⟩
    · exact e _ (.inl rfl)
    · exact e _ (.inr (List.mem_map.2 ⟨x, hx, rfl⟩)))
  refine ⟨h.base.of_heap (e _ (.inl rfl)), path_congr _ _ _ (fun a ha => hx a (List.dropLast_subset _ ha) _) (fun a ha => hx a (List.mem_of_mem_tail ha) _) h.path, fun x hx => (h.nodes x hx).of_heap (e _ (.inr (List.mem_map.2 ⟨x, hx, rfl⟩))), h.nd⟩

theorem frozen_pos {w : World} {c M : Nat} {room : Int} {L : List (Nd α β)} (h : Core K V nv w c M room L) {p : Pl} (hp : p ∈ round c L) (o : Nat) : w.frozen? (p.ad o) = false := by
  rcases mem_round.1 hp with rfl | ⟨x, hx, rfl⟩
  · exact h.base.free _
  · exact (h.nodes x hx).free _

theorem last_of (c : Nat) (A : List (Nd α β)) : ∃ (l1 : List Pl) (p : Pl), ((c, 1) : Pl) :: A.map Nd.pl = l1 ++ [p] := by
  have h : ((c, 1) : Pl) :: A.map Nd.pl ≠ [] := by simp
  exact ⟨_, _, (List.dropLast_concat_getLast h).symm⟩

theorem first_of (c : Nat) (B : List (Nd α β)) : ∃ (n : Pl) (l2 : List Pl), B.map Nd.pl ++ [((c, 1) : Pl)] = n :: l2 := by
  cases B with
  | nil => exact ⟨_, _, rfl⟩
  | cons y r => exact ⟨_, _, rfl⟩

/-- A node goes out of the round. -/
theorem Core.off {w : World} {c M : Nat} {room : Int} {A B : List (Nd α β)} {x : Nd α β} (h : Core K V nv w c M room (A ++ x :: B)) :
    ∃ p n : Pl, ∃ vp vn, w.cell? ⟨x.b, nv + 2, none⟩ = some (ptr p) ∧ w.cell? ⟨x.b, nv + 3, none⟩ = some (ptr n) ∧
      w.cell? (p.ad (nv + 3)) = some vp ∧ w.frozen? (p.ad (nv + 3)) = false ∧ (w.setCell (p.ad (nv + 3)) (ptr n)).cell? (n.ad (nv + 2)) = some vn ∧ w.frozen? (n.ad (nv + 2)) = false ∧
      (p.1 = c ∨ p.1 ∈ (A ++ B).map (·.b)) ∧ (n.1 = c ∨ n.1 ∈ (A ++ B).map (·.b)) ∧
      ∀ w' : World, w'.heap = ((w.setCell (p.ad (nv + 3)) (ptr n)).setCell (n.ad (nv + 2)) (ptr p)).heap → Core K V nv w' c M room (A ++ B) ∧ NodeAt K V nv w' x := by
  obtain ⟨l1, p, e1⟩ := last_of c A
  obtain ⟨n, l2, e2⟩ := first_of c B
  have hne : nv + 2 ≠ nv + 3 := by omega
  have er : round c (A ++ x :: B) = l1 ++ p :: x.pl :: n :: l2 := by
    unfold round
    rw [List.map_append, List.map_cons, List.append_assoc, List.cons_append, ← List.cons_append, e1, e2]; simp
  have er' : round c (A ++ B) = l1 ++ p :: n :: l2 := by
    unfold round
    rw [List.map_append, List.append_assoc, ← List.cons_append, e1, e2]; simp
  have hpath := h.path
  rw [er] at hpath
  have hp2 := (path_split _ _ w p x.pl (n :: l2) l1).1 hpath
  obtain ⟨_, hpx, hxn, _⟩ := hp2
  have hnd := h.nd
  have hndp := nodup_pl hnd
  have hnd' : (c :: (A ++ B).map (·.b)).Nodup := by
    refine List.Sublist.nodup ?_ hnd
    simp
  have hpr : p ∈ round c (A ++ B) := by rw [er']; simp
  have hnr : n ∈ round c (A ++ B) := by rw [er']; simp
  have hmemAB : ∀ a, a ∈ round c (A ++ B) → a ∈ round c (A ++ x :: B) := by
    intro a ha
    rcases mem_round.1 ha with q | ⟨y, hy, q⟩
    · exact mem_round.2 (.inl q)
    · refine mem_round.2 (.inr ⟨y, ?_, q⟩)
      rcases List.mem_append.1 hy with hy | hy
      · simp [hy]
      · simp [hy]
  have hAp : Apart (l1 ++ p :: n :: l2) := apart_of hnd' (by rw [er']; exact fun _ h => h)
  -- p, n beside the others
  have hpA : p = (c, 1) ∨ p ∈ A.map Nd.pl := by
    have : p ∈ ((c, 1) : Pl) :: A.map Nd.pl := by rw [e1]; simp
    simpa using this
  have hnB : n = (c, 1) ∨ n ∈ B.map Nd.pl := by
    have : n ∈ B.map Nd.pl ++ [((c, 1) : Pl)] := by rw [e2]; simp
    simpa [or_comm] using this
  simp only [List.map_append, List.map_cons] at hndp
  obtain ⟨hcn, hndp⟩ := List.nodup_cons.1 hndp
  obtain ⟨hA1, hxB, hdis⟩ := List.nodup_append.1 hndp
  obtain ⟨hxnB, hB1⟩ := List.nodup_cons.1 hxB
  have hdisAB : ∀ a, a ∈ A.map Nd.pl → a ∈ B.map Nd.pl → False := fun a h1 h2 => hdis a h1 a (List.mem_cons_of_mem _ h2) rfl
  have hcA : ((c, 1) : Pl) ∉ A.map Nd.pl := fun h => hcn (by simp [h])
  have hcB : ((c, 1) : Pl) ∉ B.map Nd.pl := fun h => hcn (by simp [h])
  have hl1 : p ∉ l1 := by
    have : (((c, 1) : Pl) :: A.map Nd.pl).Nodup := List.nodup_cons.2 ⟨hcA, hA1⟩
    rw [e1] at this
    obtain ⟨_, _, q⟩ := List.nodup_append.1 this
    exact fun h => q p h p (by simp) rfl
  have hl2 : n ∉ l2 := by
    have : (B.map Nd.pl ++ [((c, 1) : Pl)]).Nodup := List.nodup_append.2 ⟨hB1, by simp, fun a ha b hb e => by simp at hb; exact hcB (hb ▸ e ▸ ha)⟩
    rw [e2] at this
    exact (List.nodup_cons.1 this).1
  have hn1 : n ∉ (l1 ++ [p]).tail := by
    rw [← e1]
    show n ∉ A.map Nd.pl
    rcases hnB with rfl | hn
    · exact hcA
    · exact fun h => hdisAB n h hn
  have hp2' : p ∉ (n :: l2).dropLast := by
    rw [← e2, List.dropLast_concat]
    rcases hpA with rfl | hp
    · exact hcB
    · exact fun h => hdisAB p hp h
  have hcn2 : (w.setCell (p.ad (nv + 3)) (ptr n)).cell? (n.ad (nv + 2)) = some (ptr x.pl) := by
    rw [cell_set_ne _ (ad_ne_of hne (fun e => hAp _ (by simp) _ (by simp) e))]; exact hxn.2
  have eb : ∀ a : Pl, a ∈ round c (A ++ B) → a.1 = c ∨ a.1 ∈ (A ++ B).map (·.b) := by
    intro a ha
    rcases mem_round.1 ha with rfl | ⟨y, hy, rfl⟩
    · exact .inl rfl
    · exact .inr (List.mem_map.2 ⟨y, hy, rfl⟩)
  have ex : (x.pl.ad (nv + 2)) = ⟨x.b, nv + 2, none⟩ := by simp [Nd.pl, Pl.ad]
  have ex3 : (x.pl.ad (nv + 3)) = ⟨x.b, nv + 3, none⟩ := by simp [Nd.pl, Pl.ad]
  refine ⟨p, n, ptr x.pl, ptr x.pl, ex ▸ hpx.2, ex3 ▸ hxn.1, hpx.1, frozen_pos h (hmemAB _ hpr) _, hcn2, frozen_pos h (hmemAB _ hnr) _, eb p hpr, eb n hnr, ?_⟩
  intro w' hw'
  have hbx : x.b ≠ c := fun e => (List.nodup_cons.1 hnd).1 (by simp [e])
  have hpos : ∀ a ∈ round c (A ++ x :: B), Pos c a := fun a ha => pos_of (List.nodup_cons.1 hnd).1 ha
  have node : ∀ y ∈ A ++ x :: B, NodeAt K V nv ((w.setCell (p.ad (nv + 3)) (ptr n)).setCell (n.ad (nv + 2)) (ptr p)) y := by
    intro y hy
    have hyc : y.b ≠ c := fun e => (List.nodup_cons.1 hnd).1 (List.mem_map.2 ⟨y, hy, e⟩)
    refine ((h.nodes y hy).set _ ?_).set _ ?_
    · intro q
      have := (hpos p (hmemAB _ hpr)).2 (fun e => hyc (q.symm.trans e))
      exact ⟨rfl, .inr (by simp [this])⟩
    · intro q
      have := (hpos n (hmemAB _ hnr)).2 (fun e => hyc (q.symm.trans e))
      exact ⟨rfl, .inl (by simp [this])⟩
  have hcore : Core K V nv ((w.setCell (p.ad (nv + 3)) (ptr n)).setCell (n.ad (nv + 2)) (ptr p)) c M room (A ++ B) := by
    refine ⟨(h.base.set _ ?_).set _ ?_, ?_, fun y hy => node y ?_, hnd'⟩
    · intro q
      have := (hpos p (hmemAB _ hpr)).1 q
      exact ⟨by simp, by simp [this]; omega⟩
    · intro q
      have := (hpos n (hmemAB _ hnr)).1 q
      exact ⟨by simp, by simp [this]; omega⟩
    · rw [er']
      exact path_off hne hpath hAp hl1 hn1 hp2' hl2
    · rcases List.mem_append.1 hy with hy | hy
      · simp [hy]
      · simp [hy]
  exact ⟨hcore.of_heap hw', (node x (by simp)).of_heap (by rw [hw'])⟩

/-- A node comes first. -/
theorem Core.first {w : World} {c M : Nat} {room : Int} {L : List (Nd α β)} {x : Nd α β} (h : Core K V nv w c M room L) (hx : NodeAt K V nv w x) (hc : x.b ≠ c) (hL : x.b ∉ L.map (·.b)) :
    ∃ n : Pl, ∃ u1 u2 u3 u4, w.cell? ⟨c, nv + 4, none⟩ = some (ptr n) ∧ w.cell? ⟨x.b, nv + 2, none⟩ = some u1 ∧ w.cell? ⟨x.b, nv + 3, none⟩ = some u2 ∧
      w.frozen? ⟨x.b, nv + 2, none⟩ = false ∧ w.frozen? ⟨x.b, nv + 3, none⟩ = false ∧
      ((w.setCell ⟨x.b, nv + 2, none⟩ (ptr (c, 1))).setCell ⟨x.b, nv + 3, none⟩ (ptr n)).cell? ⟨c, nv + 4, none⟩ = some u3 ∧ w.frozen? ⟨c, nv + 4, none⟩ = false ∧
      (((w.setCell ⟨x.b, nv + 2, none⟩ (ptr (c, 1))).setCell ⟨x.b, nv + 3, none⟩ (ptr n)).setCell ⟨c, nv + 4, none⟩ (ptr (x.b, 0))).cell? (n.ad (nv + 2)) = some u4 ∧ w.frozen? (n.ad (nv + 2)) = false ∧
      (n.1 = c ∨ n.1 ∈ L.map (·.b)) ∧
      ∀ w' : World, w'.heap = ((((w.setCell ⟨x.b, nv + 2, none⟩ (ptr (c, 1))).setCell ⟨x.b, nv + 3, none⟩ (ptr n)).setCell ⟨c, nv + 4, none⟩ (ptr (x.b, 0))).setCell (n.ad (nv + 2)) (ptr (x.b, 0))).heap → Core K V nv w' c M room (x :: L) := by
  obtain ⟨n, l2, e2⟩ := first_of c L
  have hne : nv + 2 ≠ nv + 3 := by omega
  have er : round c L = (c, 1) :: n :: l2 := by unfold round; rw [e2]
  have er' : round c (x :: L) = (c, 1) :: x.pl :: n :: l2 := by unfold round; rw [List.map_cons, List.cons_append, e2]
  have hpath := h.path
  rw [er] at hpath
  obtain ⟨⟨hl1, hl2⟩, _⟩ := hpath
  have hnr : n ∈ round c L := by rw [er]; simp
  have hAp : Apart ((c, 1) :: n :: l2) := apart_of h.nd (by rw [er]; exact fun _ h => h)
  have e4 : (Pl.ad (c, 1) (nv + 3)) = ⟨c, nv + 4, none⟩ := by simp [Pl.ad]; omega
  have ex2 : (x.pl.ad (nv + 2)) = ⟨x.b, nv + 2, none⟩ := by simp [Nd.pl, Pl.ad]
  have ex3 : (x.pl.ad (nv + 3)) = ⟨x.b, nv + 3, none⟩ := by simp [Nd.pl, Pl.ad]
  have hxb : ∀ a ∈ (c, 1) :: n :: l2, a.1 ≠ x.pl.1 := by
    intro a ha e
    rw [← er] at ha
    rcases mem_round.1 ha with rfl | ⟨y, hy, rfl⟩
    · exact hc e.symm
    · exact hL (List.mem_map.2 ⟨y, hy, e⟩)
  have hndp := nodup_pl h.nd
  obtain ⟨hcn, hndL⟩ := List.nodup_cons.1 hndp
  have h3 : ((c, 1) : Pl) ∉ (n :: l2).dropLast := by rw [← e2, List.dropLast_concat]; exact hcn
  have h4 : n ∉ l2 := by
    have : (L.map Nd.pl ++ [((c, 1) : Pl)]).Nodup := List.nodup_append.2 ⟨hndL, by simp, fun a ha b hb e => by simp at hb; exact hcn (hb ▸ e ▸ ha)⟩
    rw [e2] at this
    exact (List.nodup_cons.1 this).1
  obtain ⟨p1, hp1⟩ := hx.prev
  obtain ⟨p2, hp2⟩ := hx.next
  have g3 : ((w.setCell ⟨x.b, nv + 2, none⟩ (ptr (c, 1))).setCell ⟨x.b, nv + 3, none⟩ (ptr n)).cell? ⟨c, nv + 4, none⟩ = some (ptr n) := by
    rw [cell_set_ne _ (by simp), cell_set_ne _ (by simp), ← e4]; exact hl1
  have g4 : (((w.setCell ⟨x.b, nv + 2, none⟩ (ptr (c, 1))).setCell ⟨x.b, nv + 3, none⟩ (ptr n)).setCell ⟨c, nv + 4, none⟩ (ptr (x.b, 0))).cell? (n.ad (nv + 2)) = some (ptr (c, 1)) := by
    have hnx : n.1 ≠ x.b := hxb n (by simp)
    rw [cell_set_ne _ (by rw [← e4]; exact ad_ne_of hne (fun e => hAp _ (by simp) _ (by simp) e)), cell_set_ne _ (by simp [hnx]), cell_set_ne _ (by simp [hnx])]; exact hl2
  have hnb : n.1 = c ∨ n.1 ∈ L.map (·.b) := by
    rcases mem_round.1 hnr with rfl | ⟨y, hy, rfl⟩
    · exact .inl rfl
    · exact .inr (List.mem_map.2 ⟨y, hy, rfl⟩)
  refine ⟨n, _, _, _, _, e4 ▸ hl1, hp1, hp2, hx.free _, hx.free _, g3, h.base.free _, g4, frozen_pos h hnr _, hnb, ?_⟩
  intro w' hw'
  have hpos : ∀ a ∈ round c L, Pos c a := fun a ha => pos_of (List.nodup_cons.1 h.nd).1 ha
  have node : ∀ y : Nd α β, y.b ≠ c → NodeAt K V nv w y → NodeAt K V nv ((((w.setCell ⟨x.b, nv + 2, none⟩ (ptr (c, 1))).setCell ⟨x.b, nv + 3, none⟩ (ptr n)).setCell ⟨c, nv + 4, none⟩ (ptr (x.b, 0))).setCell (n.ad (nv + 2)) (ptr (x.b, 0))) y := by
    intro y hyc hy
    refine (((hy.set _ ?_).set _ ?_).set _ ?_).set _ ?_
    · exact fun _ => ⟨rfl, .inl rfl⟩
    · exact fun _ => ⟨rfl, .inr rfl⟩
    · exact fun q => absurd q.symm hyc
    · intro q
      have := (hpos n hnr).2 (fun e => hyc (q.symm.trans e))
      exact ⟨rfl, .inl (by simp [this])⟩
  have hcore : Core K V nv ((((w.setCell ⟨x.b, nv + 2, none⟩ (ptr (c, 1))).setCell ⟨x.b, nv + 3, none⟩ (ptr n)).setCell ⟨c, nv + 4, none⟩ (ptr (x.b, 0))).setCell (n.ad (nv + 2)) (ptr (x.b, 0))) c M room (x :: L) := by
    refine ⟨(((h.base.set _ ?_).set _ ?_).set _ ?_).set _ ?_, ?_, fun y hy => ?_, ?_⟩
    · exact fun q => absurd q hc
    · exact fun q => absurd q hc
    · exact fun _ => ⟨by simp, by simp⟩
    · intro q
      have := (hpos n hnr).1 q
      exact ⟨by simp, by simp [this]; omega⟩
    · rw [er']
      have := path_first (h := (c, 1)) (x := x.pl) (u1 := .pointer p1) (u2 := .pointer p2) hne (er ▸ h.path) hAp hxb h3 h4 (by rw [ex2]; exact hp1) (by rw [ex3]; exact hp2)
      rw [ex2, ex3, e4] at this
      exact this
    · rcases List.mem_cons.1 hy with rfl | hy
      · exact node y hc hx
      · exact node y (fun e => (List.nodup_cons.1 h.nd).1 (List.mem_map.2 ⟨y, hy, e⟩)) (h.nodes y hy)
    · have := h.nd
      simp only [List.map_cons, List.nodup_cons, List.mem_cons, not_or] at this ⊢
      exact ⟨⟨Ne.symm hc, this.1⟩, hL, this.2⟩
  exact hcore.of_heap hw'

end
end Go.Proofs.YtdgnfdheofacgaaGreat
