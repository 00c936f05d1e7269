/- Plain facts about a whole cache of package lru in memory, of no program: the round, the nodes and the map together ('LruAt'), and what each of the code's steps makes of them. -/
import Derived.Test.YtdgnfdheofacgaaGreatLru
namespace Go.Proofs.YtdgnfdheofacgaaGreat
open Go.MapKept

section
variable {α β : Type} (K : α → Value) (V : β → Nat → Value) (nv : Nat) (d : TypeDesc)

structure LruAt (F : Nat → Prop) (w : World) (c M : Nat) (f : Value → Option Value) (room : Int) (L : List (Nd α β)) : Prop where
  core : Core K V nv w c M room L
  map : MapIs d w M f L.length
  look : ∀ kv v, f kv = some v ↔ ∃ x ∈ L, K x.s.k = kv ∧ ptr x.pl = v
  keys : (L.map (·.s.k)).Nodup
  fc : F c
  fm : F M
  fl : ∀ x ∈ L, F x.b
  flt : ∀ b, F b → b < w.heap.size

variable {K V nv d}
variable {F : Nat → Prop} {w : World} {c M : Nat} {f : Value → Option Value} {room : Int} {L A B : List (Nd α β)} {x : Nd α β}

theorem LruAt.split (inj : ∀ a b, K a = K b → a = b) (h : LruAt K V nv d F w c M f room L) (k : α) :
    (∃ A x B, L = A ++ x :: B ∧ x.s.k = k ∧ f (K k) = some (ptr x.pl)) ∨ ((∀ x ∈ L, x.s.k ≠ k) ∧ f (K k) = none) := by
  cases hq : f (K k) with
  | some v =>
    obtain ⟨x, hx, hk, rfl⟩ := (h.look _ _).1 hq
    obtain ⟨A, B, e⟩ := List.append_of_mem hx
    exact .inl ⟨A, x, B, e, inj _ _ hk, rfl⟩
  | none =>
    refine .inr ⟨fun x hx e => ?_, rfl⟩
    have := (h.look (K k) (ptr x.pl)).2 ⟨x, hx, by rw [e], rfl⟩
    rw [hq] at this; cases this

theorem LruAt.lt (h : LruAt K V nv d F w c M f room L) : c < w.heap.size := h.flt c h.fc

/-- What was not touched stays. -/
theorem LruAt.kept {S : Nat → Prop} {w' : World} (h : LruAt K V nv d F w c M f room L) (hk : Only S w w') (hs : ∀ b, F b → ¬ S b) : LruAt K V nv d F w' c M f room L := by
  refine ⟨h.core.kept fun b hb => ?_, h.map.kept hk (hs M h.fm), h.look, h.keys, h.fc, h.fm, h.fl, fun b hb => Nat.lt_of_lt_of_le (h.flt b hb) hk.size⟩
  have : F b := by
    rcases hb with rfl | hb
    · exact h.fc
    · obtain ⟨y, hy, rfl⟩ := List.mem_map.1 hb
      exact h.fl y hy
  exact hk.block b (h.flt b this) (hs b this)

theorem LruAt.like {w' : World} (h : LruAt K V nv d F w c M f room L) (hk : Like w' w) : LruAt K V nv d F w' c M f room L :=
  h.kept (hk.only (fun _ => False)) (fun _ _ q => q)

theorem LruAt.alloc (h : LruAt K V nv d F w c M f room L) (o : Obj) : LruAt K V nv d F (w.alloc o) c M f room L :=
  h.kept (Only.alloc (fun _ => False) w o) (fun _ _ q => q)

theorem LruAt.drew (h : LruAt K V nv d F w c M f room L) : LruAt K V nv d F w.drew c M f room L := h.like ⟨rfl, rfl, rfl, rfl⟩

theorem LruAt.grow {F' : Nat → Prop} (h : LruAt K V nv d F w c M f room L) (hF : ∀ b, F b → F' b) (hlt : ∀ b, F' b → b < w.heap.size) : LruAt K V nv d F' w c M f room L :=
  ⟨h.core, h.map, h.look, h.keys, hF _ h.fc, hF _ h.fm, fun x hx => hF _ (h.fl x hx), hlt⟩

theorem LruAt.mid_nd (h : LruAt K V nv d F w c M f room (A ++ x :: B)) : x.b ≠ c ∧ x.b ∉ (A ++ B).map (·.b) := by
  have hn := h.core.nd
  rw [List.nodup_cons, List.map_append, List.map_cons] at hn
  refine ⟨fun e => hn.1 (by simp [e]), fun q => ?_⟩
  have h2 := List.nodup_append.1 hn.2
  rw [List.map_append, List.mem_append] at q
  rcases q with q | q
  · exact h2.2.2 _ q _ (by simp) rfl
  · exact (List.nodup_cons.1 h2.2.1).1 q

theorem perm_mid (A B : List (Nd α β)) (x : Nd α β) : (x :: (A ++ B)).Perm (A ++ x :: B) := List.perm_middle.symm

/-- A permutation of the nodes: the map is the same. -/
theorem look_perm {L L' : List (Nd α β)} (hp : L'.Perm L) (h : ∀ kv v, f kv = some v ↔ ∃ x ∈ L, K x.s.k = kv ∧ ptr x.pl = v) : ∀ kv v, f kv = some v ↔ ∃ x ∈ L', K x.s.k = kv ∧ ptr x.pl = v := by
  intro kv v
  rw [h kv v]
  exact ⟨fun ⟨y, hy, r⟩ => ⟨y, hp.mem_iff.2 hy, r⟩, fun ⟨y, hy, r⟩ => ⟨y, hp.mem_iff.1 hy, r⟩⟩

/-- .off() of a node: what the walk of off asks, and what is there behind it. -/
theorem LruAt.off (h : LruAt K V nv d F w c M f room (A ++ x :: B)) :
    ∃ p n : Pl, ∃ vp vn, w.cell? ⟨x.b, nv + 2, none⟩ = some (ptr p) ∧ w.cell? ⟨x.b, nv + 3, none⟩ = some (ptr n) ∧
      w.cell? (p.ad (nv + 3)) = some vp ∧ w.frozen? (p.ad (nv + 3)) = false ∧ (w.setCell (p.ad (nv + 3)) (ptr n)).cell? (n.ad (nv + 2)) = some vn ∧ w.frozen? (n.ad (nv + 2)) = false ∧
      ∀ w' : World, Like w' ((w.setCell (p.ad (nv + 3)) (ptr n)).setCell (n.ad (nv + 2)) (ptr p)) →
        Core K V nv w' c M room (A ++ B) ∧ NodeAt K V nv w' x ∧ MapIs d w' M f (A ++ x :: B).length ∧ Only F w w' := by
  obtain ⟨p, n, vp, vn, h1, h2, h3, h4, h5, h6, hp, hn, h7⟩ := h.core.off
  have hF : ∀ b, (b = c ∨ b ∈ (A ++ B).map (·.b)) → F b := by
    rintro b (rfl | hb)
    · exact h.fc
    · obtain ⟨y, hy, rfl⟩ := List.mem_map.1 hb
      exact h.fl y ((perm_mid A B x).mem_iff.1 (List.mem_cons_of_mem _ hy))
  refine ⟨p, n, vp, vn, h1, h2, h3, h4, h5, h6, fun w' hw => ?_⟩
  obtain ⟨c1, c2⟩ := h7 w' hw.heap
  exact ⟨c1, c2, ((h.map.setCell h3 _).setCell h5 _).of_block (by rw [hw.heap]),
    ((Only.setCell w (hF _ hp) _).trans (Only.setCell _ (hF _ hn) _)).trans (hw.only F)⟩

/-- c.use(x), behind .off(). -/
theorem Core.then_first {w0 w1 : World} {S : Nat → Prop} {m : Nat} (hc : Core K V nv w1 c M room L) (hx : NodeAt K V nv w1 x) (hm : MapIs d w1 M f m) (hne : x.b ≠ c) (hL : x.b ∉ L.map (·.b))
    (ho : Only S w0 w1) (sc : S c) (sl : ∀ y ∈ L, S y.b) (sx : S x.b) :
    ∃ n : Pl, ∃ u1 u2 u3 u4, w1.cell? ⟨c, nv + 4, none⟩ = some (ptr n) ∧ w1.cell? ⟨x.b, nv + 2, none⟩ = some u1 ∧ w1.cell? ⟨x.b, nv + 3, none⟩ = some u2 ∧
      w1.frozen? ⟨x.b, nv + 2, none⟩ = false ∧ w1.frozen? ⟨x.b, nv + 3, none⟩ = false ∧
      ((w1.setCell ⟨x.b, nv + 2, none⟩ (ptr (c, 1))).setCell ⟨x.b, nv + 3, none⟩ (ptr n)).cell? ⟨c, nv + 4, none⟩ = some u3 ∧ w1.frozen? ⟨c, nv + 4, none⟩ = false ∧
      (((w1.setCell ⟨x.b, nv + 2, none⟩ (ptr (c, 1))).setCell ⟨x.b, nv + 3, none⟩ (ptr n)).setCell ⟨c, nv + 4, none⟩ (ptr (x.b, 0))).cell? (n.ad (nv + 2)) = some u4 ∧ w1.frozen? (n.ad (nv + 2)) = false ∧
      ∀ w' : World, Like w' ((((w1.setCell ⟨x.b, nv + 2, none⟩ (ptr (c, 1))).setCell ⟨x.b, nv + 3, none⟩ (ptr n)).setCell ⟨c, nv + 4, none⟩ (ptr (x.b, 0))).setCell (n.ad (nv + 2)) (ptr (x.b, 0))) →
        Core K V nv w' c M room (x :: L) ∧ MapIs d w' M f m ∧ Only S w0 w' := by
  obtain ⟨n, u1, u2, u3, u4, h1, h2, h3, h4, h5, h6, h7, h8, h9, hn, h10⟩ := hc.first hx hne hL
  have hS : ∀ b, (b = c ∨ b ∈ L.map (·.b)) → S b := by
    rintro b (rfl | hb)
    · exact sc
    · obtain ⟨y, hy, rfl⟩ := List.mem_map.1 hb
      exact sl y hy
  refine ⟨n, u1, u2, u3, u4, h1, h2, h3, h4, h5, h6, h7, h8, h9, fun w' hw => ⟨h10 w' hw.heap, ?_, ?_⟩⟩
  · have h3' : (w1.setCell ⟨x.b, nv + 2, none⟩ (ptr (c, 1))).cell? ⟨x.b, nv + 3, none⟩ = some u2 := by rw [cell_set_ne _ (by simp)]; exact h3
    exact ((((hm.setCell h2 _).setCell h3' _).setCell h6 _).setCell h8 _).of_block (by rw [hw.heap])
  · exact ho.trans ((((Only.setCell w1 sx _).trans (Only.setCell _ sx _)).trans (Only.setCell _ sc _)).trans (Only.setCell _ (hS _ hn) _) |>.trans (hw.only S))

/-- The nodes in another order, the one of x first. -/
theorem LruAt.used {w' : World} (h : LruAt K V nv d F w c M f room (A ++ x :: B)) (hc : Core K V nv w' c M room (x :: (A ++ B))) (hm : MapIs d w' M f (A ++ x :: B).length) (ho : Only F w w') : LruAt K V nv d F w' c M f room (x :: (A ++ B)) := by
  have hp := perm_mid A B x
  refine ⟨hc, by rw [hp.length_eq]; exact hm, look_perm hp h.look, (hp.map _).nodup_iff.2 h.keys, h.fc, h.fm, fun y hy => h.fl y (hp.mem_iff.1 hy), fun b hb => Nat.lt_of_lt_of_le (h.flt b hb) ho.size⟩

/-- Something in x's own node has turned (its value, its pins). -/
theorem LruAt.turn {w' : World} {s : Slot α β} (h : LruAt K V nv d F w c M f room (A ++ x :: B)) (hk : s.k = x.s.k) (hx : NodeAt K V nv w' ⟨x.b, s⟩)
    (e2 : w'.cell? ⟨x.b, nv + 2, none⟩ = w.cell? ⟨x.b, nv + 2, none⟩) (e3 : w'.cell? ⟨x.b, nv + 3, none⟩ = w.cell? ⟨x.b, nv + 3, none⟩) (hb : ∀ b, b ≠ x.b → w'.heap[b]? = w.heap[b]?) (hs : w'.heap.size = w.heap.size) :
    LruAt K V nv d F w' c M f room (A ++ ⟨x.b, s⟩ :: B) := by
  have hmid := h.mid_nd
  have eb : (A ++ (⟨x.b, s⟩ : Nd α β) :: B).map (·.b) = (A ++ x :: B).map (·.b) := by simp
  have er : round c (A ++ (⟨x.b, s⟩ : Nd α β) :: B) = round c (A ++ x :: B) := by simp [round, Nd.pl]
  have hM : M ≠ x.b := fun e => by
    obtain ⟨es, k, q, _⟩ := h.map
    have := (h.core.nodes x (by simp)).key
    rw [← e, no_cell_of_map q] at this; cases this
  have hpos : ∀ p ∈ round c (A ++ x :: B), ∀ o, (o = nv + 2 ∨ o = nv + 3) → w'.cell? (p.ad o) = w.cell? (p.ad o) := by
    intro p hp o ho
    by_cases e : p.1 = x.b
    · have hp0 : p.2 = 0 := (pos_of (List.nodup_cons.1 h.core.nd).1 hp).2 (fun q => hmid.1 (e.symm.trans q))
      have ep : p.ad o = ⟨x.b, o, none⟩ := by simp [Pl.ad, e, hp0]
      rw [ep]
      rcases ho with rfl | rfl
      · exact e2
      · exact e3
    · exact World.cell?_of_block (w := w) (hb _ e)
  refine ⟨⟨h.core.base.of_heap (hb _ (fun e => hmid.1 e.symm)), ?_, ?_, by rw [eb]; exact h.core.nd⟩, ?_, ?_, ?_, h.fc, h.fm, ?_, fun b hb => by rw [hs]; exact h.flt b hb⟩
  · rw [er]
    exact path_congr _ _ _ (fun a ha => hpos a (List.dropLast_subset _ ha) _ (.inr rfl)) (fun a ha => hpos a (List.mem_of_mem_tail ha) _ (.inl rfl)) h.core.path
  · intro y hy
    have other : ∀ y ∈ A ++ B, NodeAt K V nv w' y := fun y hy => by
      refine (h.core.nodes y ((perm_mid A B x).mem_iff.1 (List.mem_cons_of_mem _ hy))).of_heap (hb _ fun e => hmid.2 (List.mem_map.2 ⟨y, hy, e⟩))
    rcases List.mem_append.1 hy with hy | hy
    · exact other y (by simp [hy])
    · rcases List.mem_cons.1 hy with rfl | hy
      · exact hx
      · exact other y (by simp [hy])
  · have e : (A ++ (⟨x.b, s⟩ : Nd α β) :: B).length = (A ++ x :: B).length := by simp
    rw [e]
    exact h.map.of_block (hb M hM)
  · intro kv v
    rw [h.look kv v]
    constructor
    · rintro ⟨y, hy, hk1, hk2⟩
      rcases List.mem_append.1 hy with hy | hy
      · exact ⟨y, by simp [hy], hk1, hk2⟩
      · rcases List.mem_cons.1 hy with rfl | hy
        · exact ⟨⟨y.b, s⟩, by simp, by rw [hk]; exact hk1, hk2⟩
        · exact ⟨y, by simp [hy], hk1, hk2⟩
    · rintro ⟨y, hy, hk1, hk2⟩
      rcases List.mem_append.1 hy with hy | hy
      · exact ⟨y, by simp [hy], hk1, hk2⟩
      · rcases List.mem_cons.1 hy with rfl | hy
        · exact ⟨x, by simp, by rw [← hk]; exact hk1, hk2⟩
        · exact ⟨y, by simp [hy], hk1, hk2⟩
  · have e : (A ++ (⟨x.b, s⟩ : Nd α β) :: B).map (·.s.k) = (A ++ x :: B).map (·.s.k) := by simp [hk]
    rw [e]; exact h.keys
  · intro y hy
    rcases List.mem_append.1 hy with hy | hy
    · exact h.fl y (by simp [hy])
    · rcases List.mem_cons.1 hy with rfl | hy
      · exact h.fl x (by simp)
      · exact h.fl y (by simp [hy])

/-- x is out of the round and goes out of the map. -/
theorem LruAt.gone {w1 w2 : World} (inj : ∀ a b, K a = K b → a = b) (h : LruAt K V nv d F w c M f room (A ++ x :: B)) (hc : Core K V nv w2 c M room (A ++ B)) (hm : MapIs d w2 M (upd f (K x.s.k) none) (if (f (K x.s.k)).isSome then (A ++ x :: B).length - 1 else (A ++ x :: B).length))
    (ho : Only F w w1) (ho2 : Only F w1 w2) : LruAt K V nv d F w2 c M (upd f (K x.s.k) none) room (A ++ B) := by
  have hp := perm_mid A B x
  have hk : ((x :: (A ++ B)).map (·.s.k)).Nodup := (hp.map _).nodup_iff.2 h.keys
  simp only [List.map_cons, List.nodup_cons] at hk
  have hfx : f (K x.s.k) = some (ptr x.pl) := (h.look _ _).2 ⟨x, by simp, rfl, rfl⟩
  rw [hfx] at hm
  refine ⟨hc, ?_, ?_, hk.2, h.fc, h.fm, fun y hy => h.fl y (hp.mem_iff.1 (List.mem_cons_of_mem _ hy)), fun b hb => Nat.lt_of_lt_of_le (h.flt b hb) (Nat.le_trans ho.size ho2.size)⟩
  · have : (A ++ B).length = (A ++ x :: B).length - 1 := by rw [← hp.length_eq]; simp
    rw [this]; exact hm
  · intro kv v
    by_cases e : kv = K x.s.k
    · subst e
      rw [upd_same]
      constructor
      · intro q; cases q
      · rintro ⟨y, hy, q, _⟩
        exact absurd (List.mem_map.2 ⟨y, hy, inj _ _ q⟩) hk.1
    · rw [upd_ne _ _ e, h.look kv v]
      constructor
      · rintro ⟨y, hy, q1, q2⟩
        rcases List.mem_cons.1 (hp.mem_iff.2 hy) with rfl | hy
        · exact absurd q1.symm e
        · exact ⟨y, hy, q1, q2⟩
      · rintro ⟨y, hy, q⟩
        exact ⟨y, hp.mem_iff.1 (List.mem_cons_of_mem _ hy), q⟩

/-- A new node comes in. -/
theorem LruAt.came {w2 : World} (inj : ∀ a b, K a = K b → a = b) (h : LruAt K V nv d F w c M f room L) (hk : ∀ y ∈ L, y.s.k ≠ x.s.k) (hc : Core K V nv w2 c M room (x :: L)) (hm : MapIs d w2 M (upd f (K x.s.k) (some (ptr x.pl))) (if (f (K x.s.k)).isSome then L.length else L.length + 1))
    (hs : w.heap.size ≤ w2.heap.size) (hx : x.b < w2.heap.size) : LruAt K V nv d (fun b => F b ∨ b = x.b) w2 c M (upd f (K x.s.k) (some (ptr x.pl))) room (x :: L) := by
  have hfx : f (K x.s.k) = none := by
    cases q : f (K x.s.k) with
    | none => rfl
    | some v =>
      obtain ⟨y, hy, e, _⟩ := (h.look _ _).1 q
      exact absurd (inj _ _ e) (hk y hy)
  rw [hfx] at hm
  refine ⟨hc, hm, ?_, ?_, .inl h.fc, .inl h.fm, ?_, ?_⟩
  · intro kv v
    by_cases e : kv = K x.s.k
    · subst e
      rw [upd_same]
      constructor
      · intro q; cases q; exact ⟨x, by simp, rfl, rfl⟩
      · rintro ⟨y, hy, q1, q2⟩
        rcases List.mem_cons.1 hy with rfl | hy
        · rw [q2]
        · exact absurd (inj _ _ q1) (hk y hy)
    · rw [upd_ne _ _ e, h.look kv v]
      constructor
      · rintro ⟨y, hy, q⟩; exact ⟨y, by simp [hy], q⟩
      · rintro ⟨y, hy, q1, q2⟩
        rcases List.mem_cons.1 hy with rfl | hy
        · exact absurd q1.symm e
        · exact ⟨y, hy, q1, q2⟩
  · simp only [List.map_cons, List.nodup_cons]
    refine ⟨fun q => ?_, h.keys⟩
    obtain ⟨y, hy, e⟩ := List.mem_map.1 q
    exact hk y hy e
  · intro y hy
    rcases List.mem_cons.1 hy with rfl | hy
    · exact .inr rfl
    · exact .inl (h.fl y hy)
  · rintro b (hb | rfl)
    · exact Nat.lt_of_lt_of_le (h.flt b hb) hs
    · exact hx

end
/-- the last place ahead, the first place behind -/
def lastP {α β : Type} (c : Nat) (A : List (Nd α β)) : Pl := (A.map Nd.pl).getLastD (c, 1)
def firstP {α β : Type} (c : Nat) (B : List (Nd α β)) : Pl := (B.map Nd.pl).headD (c, 1)

theorem lastP_snoc {α β : Type} (c : Nat) (A : List (Nd α β)) (y : Nd α β) : lastP c (A ++ [y]) = y.pl := by simp [lastP]
theorem lastP_nil {α β : Type} (c : Nat) : lastP c ([] : List (Nd α β)) = (c, 1) := rfl
theorem firstP_cons {α β : Type} (c : Nat) (B : List (Nd α β)) (y : Nd α β) : firstP c (y :: B) = y.pl := rfl
theorem firstP_nil {α β : Type} (c : Nat) : firstP c ([] : List (Nd α β)) = (c, 1) := rfl

theorem Core.link {α β : Type} {K : α → Value} {V : β → Nat → Value} {nv : Nat} {w : World} {c M : Nat} {room : Int} {L A B : List (Nd α β)} (h : Core K V nv w c M room L) (e : L = A ++ B) : Link (nv + 2) (nv + 3) w (lastP c A) (firstP c B) := by
  subst e
  have e1 : ∃ l1, ((c, 1) : Pl) :: A.map Nd.pl = l1 ++ [lastP c A] := by
    rcases List.eq_nil_or_concat A with rfl | ⟨A', y, rfl⟩
    · exact ⟨[], rfl⟩
    · exact ⟨(c, 1) :: A'.map Nd.pl, by simp [lastP]⟩
  have e2 : ∃ l2, B.map Nd.pl ++ [((c, 1) : Pl)] = firstP c B :: l2 := by
    cases B with
    | nil => exact ⟨[], rfl⟩
    | cons y r => exact ⟨r.map Nd.pl ++ [(c, 1)], by simp [firstP]⟩
  obtain ⟨l1, e1⟩ := e1
  obtain ⟨l2, e2⟩ := e2
  have er : round c (A ++ B) = l1 ++ lastP c A :: firstP c B :: l2 := by
    unfold round
    rw [List.map_append, List.append_assoc, ← List.cons_append, e1, e2]; simp
  have hp := h.path
  rw [er] at hp
  exact ((path_split _ _ w _ _ _ _).1 hp).2.1

theorem Core.b_ne {α β : Type} {K : α → Value} {V : β → Nat → Value} {nv : Nat} {w : World} {c M : Nat} {room : Int} {L : List (Nd α β)} (h : Core K V nv w c M room L) {y : Nd α β} (hy : y ∈ L) : y.b ≠ c := fun e =>
  (List.nodup_cons.1 h.nd).1 (List.mem_map.2 ⟨y, hy, e⟩)

/-- what idle finds: the last node without pins -/
def Idle {α β : Type} (L : List (Nd α β)) (u : Option Addr) : Prop :=
  (u = none ∧ ∀ x ∈ L, x.s.pins ≠ 0) ∨ ∃ A x B, L = A ++ x :: B ∧ x.s.pins = 0 ∧ (∀ y ∈ B, y.s.pins ≠ 0) ∧ u = some ⟨x.b, 0, none⟩

/-! ### the cache as a list of keys, values and pins -/
section
variable {α β : Type}
def idleS (S : List (Slot α β)) : Option (Slot α β) := S.reverse.find? fun s => decide (s.pins = 0)

variable {K : α → Value} {V : β → Nat → Value} {nv : Nat} {d : TypeDesc}
variable {F : Nat → Prop} {w : World} {c M : Nat} {f : Value → Option Value} {room : Int} {L A B : List (Nd α β)} {x : Nd α β}

def LruIs (K : α → Value) (V : β → Nat → Value) (nv : Nat) (d : TypeDesc) (F : Nat → Prop) (w : World) (c : Nat) (room : Int) (S : List (Slot α β)) : Prop :=
  ∃ M f L, LruAt K V nv d F w c M f room L ∧ L.map (·.s) = S

theorem idleS_none {S : List (Slot α β)} (h : ∀ s ∈ S, s.pins ≠ 0) : idleS S = none := List.find?_eq_none.2 fun y hy => by simp [h y (List.mem_reverse.1 hy)]

theorem idleS_mid {S T : List (Slot α β)} {s : Slot α β} (hs : s.pins = 0) (h : ∀ y ∈ T, y.pins ≠ 0) : idleS (S ++ s :: T) = some s := by
  unfold idleS
  rw [List.reverse_append, List.reverse_cons, List.append_assoc, List.find?_append, List.find?_eq_none.2 (fun y hy => by simp [h y (List.mem_reverse.1 hy)])]
  simp [hs]

theorem LruAt.kNodup (h : LruAt K V nv d F w c M f room L) : ((L.map (·.s)).map (·.k)).Nodup := by rw [List.map_map]; exact h.keys

theorem LruIs.kept {S : List (Slot α β)} {T : Nat → Prop} {w' : World} (h : LruIs K V nv d F w c room S) (hk : Only T w w') (hs : ∀ b, F b → ¬ T b) : LruIs K V nv d F w' c room S := by
  obtain ⟨M, f, L, h, e⟩ := h
  exact ⟨M, f, L, h.kept hk hs, e⟩

theorem LruIs.flt {S : List (Slot α β)} (h : LruIs K V nv d F w c room S) : ∀ b, F b → b < w.heap.size := by
  obtain ⟨M, f, L, h, e⟩ := h
  exact h.flt

theorem LruIs.kNodup {S : List (Slot α β)} (h : LruIs K V nv d F w c room S) : (S.map (·.k)).Nodup := by
  obtain ⟨M, f, L, h, rfl⟩ := h
  exact h.kNodup

variable [DecidableEq α]

def slotOf (S : List (Slot α β)) (k : α) : Option (Slot α β) := S.find? fun s => decide (s.k = k)
def without (S : List (Slot α β)) (k : α) : List (Slot α β) := S.filter fun s => decide (s.k ≠ k)
def useS (S : List (Slot α β)) (k : α) : List (Slot α β) := match slotOf S k with | some s => s :: without S k | none => S
def turnS (S : List (Slot α β)) (k : α) (g : Slot α β → Slot α β) : List (Slot α β) := S.map fun s => if s.k = k then g s else s

/-- what Put leaves: the cache, what goes, was it done -/
def putS (room : Int) (S : List (Slot α β)) (k : α) (v : β) : List (Slot α β) × Option (Slot α β) × Bool :=
  match slotOf S k with
  | some s => ({ s with v := v } :: without S k, none, true)
  | none =>
    if room = 0 then (S, none, false)
    else if room ≤ S.length then
      match idleS S with
      | none => (S, none, false)
      | some x => (⟨k, v, 0⟩ :: without S x.k, some x, true)
    else (⟨k, v, 0⟩ :: S, none, true)

theorem without_mid {S T : List (Slot α β)} {s : Slot α β} (h : ((S ++ s :: T).map (·.k)).Nodup) : without (S ++ s :: T) s.k = S ++ T := by
  rw [List.map_append, List.map_cons, List.nodup_append] at h
  obtain ⟨_, h2, h3⟩ := h
  have hS : ∀ y ∈ S, y.k ≠ s.k := fun y hy => h3 _ (List.mem_map.2 ⟨y, hy, rfl⟩) _ (by simp)
  have hT : ∀ y ∈ T, y.k ≠ s.k := fun y hy e => (List.nodup_cons.1 h2).1 (List.mem_map.2 ⟨y, hy, e⟩)
  unfold without
  rw [List.filter_append, List.filter_cons, List.filter_eq_self.2 (fun y hy => by simp [hS y hy]), List.filter_eq_self.2 (fun y hy => by simp [hT y hy])]
  simp

theorem turnS_mid {S T : List (Slot α β)} {s : Slot α β} (h : ((S ++ s :: T).map (·.k)).Nodup) (g : Slot α β → Slot α β) : turnS (S ++ s :: T) s.k g = S ++ g s :: T := by
  rw [List.map_append, List.map_cons, List.nodup_append] at h
  obtain ⟨_, h2, h3⟩ := h
  have hS : ∀ y ∈ S, y.k ≠ s.k := fun y hy => h3 _ (List.mem_map.2 ⟨y, hy, rfl⟩) _ (by simp)
  have hT : ∀ y ∈ T, y.k ≠ s.k := fun y hy e => (List.nodup_cons.1 h2).1 (List.mem_map.2 ⟨y, hy, e⟩)
  unfold turnS
  rw [List.map_append, List.map_cons, if_pos rfl]
  congr 1
  · exact (List.map_congr_left (g := id) fun y hy => by simp [hS y hy]).trans (List.map_id _)
  · congr 1
    exact (List.map_congr_left (g := id) fun y hy => by simp [hT y hy]).trans (List.map_id _)

theorem slotOf_mid {S T : List (Slot α β)} {s : Slot α β} (h : ((S ++ s :: T).map (·.k)).Nodup) : slotOf (S ++ s :: T) s.k = some s := by
  rw [List.map_append, List.map_cons, List.nodup_append] at h
  obtain ⟨_, _, h3⟩ := h
  have hS : ∀ y ∈ S, y.k ≠ s.k := fun y hy => h3 _ (List.mem_map.2 ⟨y, hy, rfl⟩) _ (by simp)
  unfold slotOf
  rw [List.find?_append, List.find?_eq_none.2 (fun y hy => by simp [hS y hy])]
  simp

theorem slotOf_none {S : List (Slot α β)} {k : α} (h : ∀ s ∈ S, s.k ≠ k) : slotOf S k = none := List.find?_eq_none.2 fun y hy => by simp [h y hy]

/-- The key is there or not, seen in the list. -/
theorem LruIs.cases (inj : ∀ a b, K a = K b → a = b) {S : List (Slot α β)} (h : LruIs K V nv d F w c room S) (k : α) :
    (∃ M f A x B, LruAt K V nv d F w c M f room (A ++ x :: B) ∧ (A ++ x :: B).map (·.s) = S ∧ x.s.k = k ∧ f (K k) = some (ptr x.pl) ∧ slotOf S k = some x.s ∧ without S k = (A ++ B).map (·.s)) ∨
    (∃ M f L, LruAt K V nv d F w c M f room L ∧ L.map (·.s) = S ∧ f (K k) = none ∧ slotOf S k = none ∧ ∀ x ∈ L, x.s.k ≠ k) := by
  obtain ⟨M, f, L, h, rfl⟩ := h
  rcases h.split inj k with ⟨A, x, B, rfl, rfl, hf⟩ | ⟨hk, hf⟩
  · have hn := h.kNodup
    rw [List.map_append, List.map_cons] at hn
    refine .inl ⟨M, f, A, x, B, h, rfl, rfl, hf, ?_, ?_⟩
    · rw [List.map_append, List.map_cons]; exact slotOf_mid hn
    · rw [List.map_append, List.map_cons, without_mid hn, List.map_append]
  · exact .inr ⟨M, f, L, h, rfl, hf, slotOf_none (fun s hs => by obtain ⟨y, hy, rfl⟩ := List.mem_map.1 hs; exact hk y hy), hk⟩

end

/-! ### one cell of a node is written -/
section
variable {α β : Type} {K : α → Value} {V : β → Nat → Value} {nv : Nat} {d : TypeDesc}
variable {F : Nat → Prop} {w : World} {c M : Nat} {f : Value → Option Value} {room : Int} {L A B : List (Nd α β)} {x : Nd α β}

theorem LruAt.setPins (h : LruAt K V nv d F w c M f room (A ++ x :: B)) (p : Int) : LruAt K V nv d F (w.setCell ⟨x.b, nv + 1, none⟩ (.int .i64 p)) c M f room (A ++ ⟨x.b, { x.s with pins := p }⟩ :: B) ∧ Only F w (w.setCell ⟨x.b, nv + 1, none⟩ (.int .i64 p)) := by
  have hx := h.core.nodes x (by simp)
  have e : ∀ o, o ≠ nv + 1 → (w.setCell ⟨x.b, nv + 1, none⟩ (.int .i64 p)).cell? ⟨x.b, o, none⟩ = w.cell? ⟨x.b, o, none⟩ := fun o _ => cell_set_ne _ (by simp)
  refine ⟨h.turn rfl ⟨(e _ (by omega)).trans hx.key, fun i hi => (e _ (by omega)).trans (hx.val i hi), World.cell?_setCell_same _ _ _ hx.pins, hx.prev.imp fun _ q => (e _ (by omega)).trans q, hx.next.imp fun _ q => (e _ (by omega)).trans q, fun o => (World.frozen?_setCell ..).trans (hx.free o)⟩
    (e _ (by omega)) (e _ (by omega)) (fun b hb => RowKit.Below.heap_setCell w _ _ b hb) (by simp), Only.setCell w (h.fl x (by simp)) _⟩

/-- A value of one cell. -/
theorem LruAt.setVal {V : β → Nat → Value} (h : LruAt K V 1 d F w c M f room (A ++ x :: B)) (v : β) : LruAt K V 1 d F (w.setCell ⟨x.b, 1, none⟩ (V v 0)) c M f room (A ++ ⟨x.b, { x.s with v := v }⟩ :: B) ∧ Only F w (w.setCell ⟨x.b, 1, none⟩ (V v 0)) := by
  have hx := h.core.nodes x (by simp)
  have e : ∀ o, o ≠ 1 → (w.setCell ⟨x.b, 1, none⟩ (V v 0)).cell? ⟨x.b, o, none⟩ = w.cell? ⟨x.b, o, none⟩ := fun o _ => cell_set_ne _ (by simp)
  refine ⟨h.turn rfl ⟨(e _ (by omega)).trans hx.key, fun i hi => ?_, (e _ (by omega)).trans hx.pins, hx.prev.imp fun _ q => (e _ (by omega)).trans q, hx.next.imp fun _ q => (e _ (by omega)).trans q, fun o => (World.frozen?_setCell ..).trans (hx.free o)⟩
    (e _ (by omega)) (e _ (by omega)) (fun b hb => RowKit.Below.heap_setCell w _ _ b hb) (by simp), Only.setCell w (h.fl x (by simp)) _⟩
  obtain rfl : i = 0 := by omega
  exact World.cell?_setCell_same _ _ _ (hx.val 0 (by omega))

theorem turnS_none [DecidableEq α] {S : List (Slot α β)} {k : α} (h : ∀ s ∈ S, s.k ≠ k) (g : Slot α β → Slot α β) : turnS S k g = S :=
  (List.map_congr_left (g := id) fun y hy => by simp [h y hy]).trans (List.map_id _)

theorem without_none [DecidableEq α] {S : List (Slot α β)} {k : α} (h : ∀ s ∈ S, s.k ≠ k) : without S k = S := List.filter_eq_self.2 fun y hy => by simp [h y hy]
end

/-! ### a new node -/
section
variable {α β : Type} {K : α → Value} {V : β → Nat → Value} {d : TypeDesc}
variable {F : Nat → Prop} {w : World} {c M : Nat} {f : Value → Option Value} {room : Int} {L : List (Nd α β)}

/-- A block that has just been made is a node, of a value of one cell. -/
theorem NodeAt.made (w : World) (T : TypeId) (k : α) (v : β) : NodeAt K V 1 (w.alloc (.cells #[K k, V v 0, .int .i64 0, .pointer none, .pointer none] T)) ⟨w.heap.size, ⟨k, v, 0⟩⟩ := by
  have e : ∀ o, (w.alloc (.cells #[K k, V v 0, .int .i64 0, .pointer none, .pointer none] T)).cell? ⟨w.heap.size, o, none⟩ = #[K k, V v 0, .int .i64 0, .pointer none, .pointer none][o]? := fun o => World.cell?_alloc_new w _ T o
  refine ⟨e 0, fun i hi => ?_, e 2, ⟨none, e 3⟩, ⟨none, e 4⟩, fun o => World.frozen?_alloc_new w _ T o⟩
  obtain rfl : i = 0 := by omega
  exact e 1

/-- c.m[k] = x, behind it c.first(x): the map has turned, and the node is none of the round's yet. -/
theorem LruAt.put_new {w1 : World} {x : Nd α β} (h : LruAt K V 1 d F w1 c M f room L) (hx : NodeAt K V 1 w1 x) (hF : ¬ F x.b) (ob : Obj) :
    Core K V 1 (setMap w1 M ob) c M room L ∧ NodeAt K V 1 (setMap w1 M ob) x ∧ x.b ≠ c ∧ x.b ∉ L.map (·.b) ∧ Only F w1 (setMap w1 M ob) ∧ x.b < w1.heap.size := by
  have hb : ∀ b, b ≠ M → (setMap w1 M ob).heap[b]? = w1.heap[b]? := fun b hb => by simp [setMap, Ne.symm hb]
  have hcM : c ≠ M := h.map.ne h.core.base.m
  have hLM : ∀ y ∈ L, y.b ≠ M := fun y hy => h.map.ne (h.core.nodes y hy).key
  have hxM : x.b ≠ M := fun e => hF (e ▸ h.fm)
  refine ⟨h.core.kept fun b q => hb b ?_, hx.of_heap (hb _ hxM), fun e => hF (e ▸ h.fc), fun q => ?_, Only.setMap w1 h.fm ob, lt_of_cell hx.key⟩
  · rcases q with rfl | q
    · exact hcM
    · obtain ⟨y, hy, rfl⟩ := List.mem_map.1 q
      exact hLM y hy
  · obtain ⟨y, hy, e⟩ := List.mem_map.1 q
    exact hF (e ▸ h.fl y hy)

/-- delete(c.m, k): the map turns, the round stays. -/
theorem Core.kept_map {nv : Nat} {w1 : World} {A : List (Nd α β)} {m : Nat} (hc : Core K V nv w1 c M room A) (hm : MapIs d w1 M f m) (ob : Obj) : Core K V nv (setMap w1 M ob) c M room A := by
  have hb : ∀ b, b ≠ M → (setMap w1 M ob).heap[b]? = w1.heap[b]? := fun b hb => by simp [setMap, Ne.symm hb]
  refine hc.kept fun b q => hb b ?_
  rcases q with rfl | q
  · exact hm.ne hc.base.m
  · obtain ⟨y, hy, rfl⟩ := List.mem_map.1 q
    exact hm.ne (hc.nodes y hy).key
end

theorem Idle.eq {α β : Type} {A B : List (Nd α β)} {x : Nd α β} {u : Option Addr} (h : Idle (A ++ x :: B) u) (hx : x.s.pins = 0) (hB : ∀ y ∈ B, y.s.pins ≠ 0) : u = some ⟨x.b, 0, none⟩ := by
  rcases h with ⟨_, h⟩ | ⟨A', x', B', e, hx', hB', rfl⟩
  · exact absurd hx (h x (by simp))
  · rcases List.append_eq_append_iff.1 e with ⟨C, rfl, e2⟩ | ⟨C, rfl, e2⟩
    · cases C with
      | nil => simp at e2; rw [e2.1]
      | cons y r =>
        simp at e2
        exact absurd hx' (hB x' (by rw [e2.2]; simp))
    · cases C with
      | nil => simp at e2; rw [← e2.1]
      | cons y r =>
        simp at e2
        exact absurd hx (hB' x (by rw [e2.2]; simp))

theorem Idle.none_eq {α β : Type} {L : List (Nd α β)} {u : Option Addr} (h : Idle L u) (hx : ∀ y ∈ L, y.s.pins ≠ 0) : u = none := by
  rcases h with ⟨q, _⟩ | ⟨A, x, B, rfl, q, _⟩
  · exact q
  · exact absurd q (hx x (by simp))

theorem last_idle {α β : Type} : ∀ L : List (Nd α β), (¬ ∀ y ∈ L, y.s.pins ≠ 0) → ∃ A x B, L = A ++ x :: B ∧ x.s.pins = 0 ∧ ∀ y ∈ B, y.s.pins ≠ 0
  | [], h => absurd (by simp) h
  | z :: r, h => by
    by_cases hr : ∀ y ∈ r, y.s.pins ≠ 0
    · refine ⟨[], z, r, rfl, ?_, hr⟩
      exact Classical.byContradiction fun q => h (fun y hy => by
        rcases List.mem_cons.1 hy with rfl | hy
        · exact q
        · exact hr y hy)
    · obtain ⟨A, x, B, e, h1, h2⟩ := last_idle r hr
      exact ⟨z :: A, x, B, by rw [e]; rfl, h1, h2⟩

/-! ### a new cache (values of one cell) -/
theorem LruIs.made {α β : Type} {K : α → Value} {V : β → Nat → Value} {d : TypeDesc} (w : World) (T : TypeId) (a b p : Value) (room : Int) {w' : World}
    (h : Like w' ((w.alloc (.map #[] 0)).alloc (.cells #[.map (some w.heap.size), a, b, p, ptr (w.heap.size + 1, 1), ptr (w.heap.size + 1, 1), .int .i64 room] T))) :
    LruIs K V 1 d (fun b => b = w.heap.size ∨ b = w.heap.size + 1) w' (w.heap.size + 1) room ([] : List (Slot α β)) ∧ Only (fun _ => False) w w' := by
  have hsz : (w.alloc (.map #[] 0)).heap.size = w.heap.size + 1 := by simp
  have ec : ∀ o, ((w.alloc (.map #[] 0)).alloc (.cells #[.map (some w.heap.size), a, b, p, ptr (w.heap.size + 1, 1), ptr (w.heap.size + 1, 1), .int .i64 room] T)).cell? ⟨w.heap.size + 1, o, none⟩ =
      #[.map (some w.heap.size), a, b, p, ptr (w.heap.size + 1, 1), ptr (w.heap.size + 1, 1), .int .i64 room][o]? := fun o => by
    rw [← hsz]; exact World.cell?_alloc_new _ _ T o
  have ef : ∀ o, ((w.alloc (.map #[] 0)).alloc (.cells #[.map (some w.heap.size), a, b, p, ptr (w.heap.size + 1, 1), ptr (w.heap.size + 1, 1), .int .i64 room] T)).frozen? ⟨w.heap.size + 1, o, none⟩ = false := fun o => by
    rw [← hsz]; exact World.frozen?_alloc_new _ _ T o
  refine ⟨⟨w.heap.size, fun _ => none, [], ⟨⟨⟨?_, ?_, ?_⟩, ?_, by simp, by simp⟩, ?_, by simp, by simp, .inr rfl, .inl rfl, by simp, ?_⟩, rfl⟩, ?_⟩
  · rw [cell_of_heap h.heap]; exact ec 0
  · rw [cell_of_heap h.heap]; exact ec 6
  · intro o; rw [frozen_of_heap h.heap]; exact ef o
  · refine path_of_heap h.heap ⟨⟨ec 5, ec 4⟩, trivial⟩
  · exact ((MapIs.made w).alloc _).of_block (by rw [h.heap])
  · intro q hq
    rw [h.heap, World.size_alloc, World.size_alloc]
    rcases hq with rfl | rfl <;> omega
  · exact ((Only.alloc _ _ _).trans (Only.alloc _ _ _)).trans (h.only _)

end Go.Proofs.YtdgnfdheofacgaaGreat
