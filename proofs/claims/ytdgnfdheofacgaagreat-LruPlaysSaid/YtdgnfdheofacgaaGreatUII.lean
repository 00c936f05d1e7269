/- The walks of package lru at keys int and values int, third part: Put. -/
import Derived.Test.YtdgnfdheofacgaaGreatVII
namespace Go.Proofs.YtdgnfdheofacgaaGreat
open Go.RowKit
namespace II
section
variable {F : Nat → Prop} {w : World} {c M : Nat} {f : Value → Option Value} {room : Int} {L A B : List (Nd Int Int)} {x : Nd Int Int}

abbrev gone : Obj := .cells #[Value.int .i64 0, Value.int .i64 0, .int .i64 0, .pointer none, .pointer none] 34
abbrev fresh (k : Int) (v : Int) : Obj := .cells #[Value.int .i64 k, Value.int .i64 v, .int .i64 0, .pointer none, .pointer none] 34

theorem gone_cell {w' : World} (h : At F w c M f room L) (o : Only F (w.alloc gone) w') (i : Nat) : w'.cell? ⟨w.heap.size, i, none⟩ = #[Value.int .i64 0, Value.int .i64 0, Value.int .i64 0, .pointer none, .pointer none][i]? :=
  (o.cell (p := ⟨w.heap.size, i, none⟩) (by simp) (fun q => absurd (h.flt _ q) (by simp))).trans (World.cell?_alloc_new w _ _ i)

theorem put_old (h : At F w c M f room (A ++ x :: B)) {k : Int} (hf : f (K k) = some (ptr x.pl)) (v : Int) :
    Calls Tryz.prog 8 #[.pointer (some ⟨c, 0, none⟩), Value.int .i64 k, Value.int .i64 v] w fun e w' => e = .returned (.tuple #[Value.int .i64 0, Value.int .i64 0, .bool false, .bool true]) ∧ At F w' c M f room (⟨x.b, { x.s with v := v }⟩ :: (A ++ B)) ∧ Only F w w' := by
  have HF := hide hf
  clear hf
  go_enter Tryz.func8, Tryz.ntmps8
  go_wp2_with fail
  refine (find_hit (h.alloc _) HF.out).mono ?_
  rintro e w1 ⟨rfl, rfl⟩
  have h0 := h.alloc gone
  have hx : (w.alloc gone).cell? ⟨x.b, 1, none⟩ = some (Value.int .i64 x.s.v) := (h0.core.nodes x (by simp)).val 0 (by omega)
  have hfr : (w.alloc gone).frozen? ⟨x.b, 1, none⟩ = false := (h0.core.nodes x (by simp)).free 1
  obtain ⟨h1, o1⟩ := h0.setVal v
  go_wp2_with fail
  refine (use_any h1).mono ?_
  rintro e w2 ⟨rfl, h2, o2⟩
  have g0 := gone_cell h (o1.trans o2) 0
  have g1 := gone_cell h (o1.trans o2) 1
  simp at g0 g1
  have ow : Only F w w2 := (Only.alloc F w _).trans (o1.trans o2)
  clear hx hfr
  go_wp2_with fail
  go_region
  go_wp2_with fail
  (try simp only [Exit.inBlock, Exit.then])
  refine bodyPost_ret (results_tmp4 rfl _ _ _) rfl ?_
  exact ⟨rfl, h2.drew, ow.trans (Only.drew F _)⟩

theorem put_noroom (h : At F w c M f 0 L) {k : Int} (hf : f (K k) = none) (v : Int) :
    Calls Tryz.prog 8 #[.pointer (some ⟨c, 0, none⟩), Value.int .i64 k, Value.int .i64 v] w fun e w' => e = .returned (.tuple #[Value.int .i64 0, Value.int .i64 0, .bool false, .bool false]) ∧ At F w' c M f 0 L ∧ Only F w w' := by
  have HF := hide hf
  clear hf
  go_enter Tryz.func8, Tryz.ntmps8
  go_wp2_with fail
  refine (find_miss (h.alloc _) HF.out).mono ?_
  rintro e w1 ⟨rfl, rfl⟩
  go_wp2_with fail
  have h0 := h.alloc gone
  refine (room_any ⟨_, _, _, h0, rfl⟩).mono ?_
  rintro e w1 ⟨rfl, rfl⟩
  have g0 := gone_cell h (Only.refl F _) 0
  have g1 := gone_cell h (Only.refl F _) 1
  simp at g0 g1
  go_wp2_with fail
  go_region
  go_wp2_with fail
  (try simp only [Exit.inBlock, Exit.then])
  refine bodyPost_ret (results_tmp4 rfl _ _ _) rfl ?_
  exact ⟨rfl, h0.drew, (Only.alloc F w _).trans (Only.drew F _)⟩

theorem put_full (h : At F w c M f room L) (h0r : (room == 0) = false) (hfull : room ≤ (L.length : Int)) (hid : ∀ y ∈ L, y.s.pins ≠ 0) {k : Int} (hf : f (K k) = none) (v : Int) :
    Calls Tryz.prog 8 #[.pointer (some ⟨c, 0, none⟩), Value.int .i64 k, Value.int .i64 v] w fun e w' => e = .returned (.tuple #[Value.int .i64 0, Value.int .i64 0, .bool false, .bool false]) ∧ At F w' c M f room L ∧ Only F w w' := by
  have HF := hide hf
  clear hf
  have HI := hide hid
  clear hid
  go_enter Tryz.func8, Tryz.ntmps8
  go_wp2_with fail
  refine (find_miss (h.alloc _) HF.out).mono ?_
  rintro e w1 ⟨rfl, rfl⟩
  go_wp2_with fail
  have h0 := h.alloc gone
  refine (room_any ⟨_, _, _, h0, rfl⟩).mono ?_
  rintro e w1 ⟨rfl, rfl⟩
  have hm := h0.core.base.m
  have hr : (w.alloc gone).cell? ⟨c, 6, none⟩ = some (.int .i64 room) := h0.core.base.room
  have hl := fun ty => h0.drew.map.len (P := Tryz.prog) undM ty
  go_wp2_with fail
  go_region
  clear hm hr hl
  go_wp2_with fail
  refine (idle_any h0.drew).mono ?_
  rintro e w1 ⟨u, rfl, hu, rfl⟩
  have hu0 : u = none := by
    rcases hu with ⟨q, _⟩ | ⟨A, x, B, rfl, q, _⟩
    · exact q
    · exact absurd q (HI.out x (by simp))
  subst hu0
  have g0 := gone_cell h (Only.drew F _) 0
  have g1 := gone_cell h (Only.drew F _) 1
  simp at g0 g1
  clear hu
  go_wp2_with fail
  go_region
  go_wp2_with fail
  (try simp only [Exit.inBlock, Exit.then])
  refine bodyPost_ret (results_tmp4 rfl _ _ _) rfl ?_
  exact ⟨rfl, h0.drew.drew, ((Only.alloc F w _).trans (Only.drew F _)).trans (Only.drew F _)⟩
theorem put_new (h : At F w c M f room L) (h0r : (room == 0) = false) (hroom : (L.length : Int) < room) {k : Int} (hf : f (K k) = none) (hk : ∀ y ∈ L, y.s.k ≠ k) (v : Int) :
    Calls Tryz.prog 8 #[.pointer (some ⟨c, 0, none⟩), Value.int .i64 k, Value.int .i64 v] w fun e w' => ∃ F' f' b, e = .returned (.tuple #[Value.int .i64 0, Value.int .i64 0, .bool false, .bool true]) ∧ At F' w' c M f' room (⟨b, ⟨k, v, 0⟩⟩ :: L) ∧ Only F w w' ∧ ∀ b, F' b → F b ∨ w.heap.size ≤ b := by
  have HF := hide hf
  clear hf
  have HK := hide hk
  clear hk
  go_enter Tryz.func8, Tryz.ntmps8
  go_wp2_with fail
  refine (find_miss (h.alloc _) HF.out).mono ?_
  rintro e w1 ⟨rfl, rfl⟩
  go_wp2_with fail
  have h0 := h.alloc gone
  refine (room_any ⟨_, _, _, h0, rfl⟩).mono ?_
  rintro e w1 ⟨rfl, rfl⟩
  have hm := h0.core.base.m
  have hr : (w.alloc gone).cell? ⟨c, 6, none⟩ = some (.int .i64 room) := h0.core.base.room
  have hl := fun ty => h0.drew.map.len (P := Tryz.prog) undM ty
  go_wp2_with fail
  go_region
  clear hl
  have h1 : At F ((w.alloc gone).alloc (fresh k v)).drew c M f room L := (h0.alloc _).drew
  have hm1 := h1.core.base.m
  go_wp2_with (at_mapUpdate; refine wpList_mapUpdate_is _ rfl _ _ _ 31 rfl undM undK rfl h1.map _ _ rfl rfl (isk k) ?_; intro ob hmap)
  have hnode : NodeAt K V 1 ((w.alloc gone).alloc (fresh k v)).drew ⟨w.heap.size + 1, ⟨k, v, 0⟩⟩ := by
    have q := NodeAt.made (K := K) (V := V) (w.alloc gone) 34 k v
    rw [World.size_alloc] at q
    exact q.of_heap rfl
  have hnF : ¬ F (w.heap.size + 1) := fun q => absurd (h.flt _ q) (by omega)
  obtain ⟨c1, n1, d1, d2, o1, hlt⟩ := h1.put_new hnode hnF ob
  obtain ⟨n, u1, u2, u3, u4, e1, e2, e3, e4, e5, e6, e7, e8, e9, e10⟩ := c1.then_first (S := fun b => F b ∨ b = w.heap.size + 1) n1 hmap d1 d2 (o1.mono fun _ _ q => .inl q) (.inl h.fc) (fun y hy => .inl (h.fl y hy)) (.inr rfl)
  refine (first_walk c (w.heap.size + 1) n.1 n.2 u1 u2 u3 u4 _ e1 e2 e3 e4 e5 e6 e7 e8 e9).mono ?_
  clear e1 e2 e3 e4 e5 e6 e7 e8 e9
  rintro e w2 ⟨rfl, hlk⟩
  obtain ⟨c3, m3, o3⟩ := e10 w2 hlk
  clear e10 hlk
  have hfin := h1.came inj (x := ⟨w.heap.size + 1, ⟨k, v, 0⟩⟩) HK.out c3 m3 o3.size (Nat.lt_of_lt_of_le hlt o3.size)
  have oall : Only (fun b => F b ∨ b = w.heap.size + 1) (w.alloc gone) w2 := ((Only.alloc _ _ _).trans (Only.drew _ _)).trans o3
  have hgc : ∀ i : Nat, w2.cell? ⟨w.heap.size, i, none⟩ = #[Value.int .i64 0, Value.int .i64 0, Value.int .i64 0, .pointer none, .pointer none][i]? := fun i =>
    (oall.cell (p := ⟨w.heap.size, i, none⟩) (by simp) (fun q => q.elim (fun q => absurd (h.flt _ q) (by simp)) (fun q => by simp at q))).trans (World.cell?_alloc_new w _ _ i)
  have g0 := hgc 0
  have g1 := hgc 1
  simp at g0 g1
  clear hgc hm hr hm1
  have ofin : Only F w w2 := ((Only.alloc F w gone).then oall (fun i q => q.elim .inl (fun q => .inr (by omega))))
  clear oall o3 o1 c3 m3 c1 n1 hmap hnode
  go_wp2_with fail
  go_region
  go_wp2_with fail
  (try simp only [Exit.inBlock, Exit.then])
  refine bodyPost_ret (results_tmp4 rfl _ _ _) rfl ?_
  exact ⟨_, _, _, rfl, hfin.drew, ofin.trans (Only.drew F _), fun b q => q.elim .inl (fun q => .inr (by omega))⟩
theorem put_evict (h : At F w c M f room (A ++ x :: B)) (h0r : (room == 0) = false) (hfull : room ≤ ((A ++ x :: B).length : Int)) (hx0 : x.s.pins = 0) (hid : ∀ y ∈ B, y.s.pins ≠ 0) {k : Int} (hf : f (K k) = none) (hk : ∀ y ∈ A ++ x :: B, y.s.k ≠ k) (v : Int) :
    Calls Tryz.prog 8 #[.pointer (some ⟨c, 0, none⟩), Value.int .i64 k, Value.int .i64 v] w fun e w' => ∃ F' f' b, e = .returned (.tuple #[Value.int .i64 x.s.k, Value.int .i64 x.s.v, .bool true, .bool true]) ∧ At F' w' c M f' room (⟨b, ⟨k, v, 0⟩⟩ :: (A ++ B)) ∧ Only F w w' ∧ ∀ b, F' b → F b ∨ w.heap.size ≤ b := by
  have HF := hide hf
  clear hf
  have HK := hide hk
  clear hk
  have HI := hide hid
  clear hid
  have HX := hide hx0
  clear hx0
  obtain ⟨n0, hn0⟩ : ∃ n0, (A ++ x :: B).length = n0 := ⟨_, rfl⟩
  rw [hn0] at hfull
  have HN := hide hn0
  clear hn0
  go_enter Tryz.func8, Tryz.ntmps8
  go_wp2_with fail
  refine (find_miss (h.alloc _) HF.out).mono ?_
  rintro e w1 ⟨rfl, rfl⟩
  go_wp2_with fail
  have h0 := h.alloc gone
  refine (room_any ⟨_, _, _, h0, rfl⟩).mono ?_
  rintro e w1 ⟨rfl, rfl⟩
  have hm := h0.core.base.m
  have hr : (w.alloc gone).cell? ⟨c, 6, none⟩ = some (.int .i64 room) := h0.core.base.room
  have hl := fun ty => h0.drew.map.len (P := Tryz.prog) undM ty
  rw [HN.out] at hl
  go_wp2_with fail
  go_region
  clear hm hr hl
  go_wp2_with fail
  refine (idle_any h0.drew).mono ?_
  rintro e w1 ⟨u, rfl, hu, rfl⟩
  have hu0 := hu.eq HX.out HI.out
  subst hu0
  clear hu
  go_wp2_with fail
  obtain ⟨p, n, vp, vn, e1, e2, e3, e4, e5, e6, e7⟩ := h0.drew.off
  refine (off_walk x.b p.1 p.2 n.1 n.2 vp vn _ e1 e2 e3 e4 e5 e6).mono ?_
  clear e1 e2 e3 e4 e5 e6
  rintro e w1 ⟨rfl, hlk⟩
  obtain ⟨c1, n1, m1, o1⟩ := e7 w1 hlk
  clear e7 hlk
  have m1' : MapIs (.int .i64) w1.drew M f (A ++ x :: B).length := m1
  obtain ⟨ob, hdel, m2⟩ := m1'.delete (P := Tryz.prog) undM undK (isk x.s.k)
  have hm := c1.base.m
  have hxk := n1.key
  go_wp2_with fail
  go_region
  clear hdel hm hxk
  have c2 : Core K V 1 (setMap w1.drew M ob) c M room (A ++ B) := (c1.of_heap (w' := w1.drew) rfl).kept_map m1' ob
  have hxM : x.b ≠ M := m1.ne n1.key
  have n2 : NodeAt K V 1 (setMap w1.drew M ob) x := (n1.of_heap (w' := w1.drew) rfl).of_heap (by simp [setMap, Ne.symm hxM])
  have h2 := h0.drew.gone inj c2 m2 o1 ((Only.drew F w1).trans (Only.setMap w1.drew h.fm ob))
  have oa : Only F (w.alloc gone) (setMap w1.drew M ob) := (Only.drew F _).trans (o1.trans ((Only.drew F w1).trans (Only.setMap w1.drew h.fm ob)))
  have g0 := gone_cell h oa 0
  have g1 := gone_cell h oa 1
  simp at g0 g1
  have gf : ∀ o, (setMap w1.drew M ob).frozen? ⟨w.heap.size, o, none⟩ = false := fun o => (oa.frozen (p := ⟨w.heap.size, o, none⟩) (by simp) (fun q => absurd (h.flt _ q) (by simp))).trans (World.frozen?_alloc_new w _ _ o)
  have hxk : (setMap w1.drew M ob).cell? ⟨x.b, 0, none⟩ = some (Value.int .i64 x.s.k) := n2.key
  have hxv : (setMap w1.drew M ob).cell? ⟨x.b, 1, none⟩ = some (Value.int .i64 x.s.v) := n2.val 0 (by omega)
  go_wp2_with fail
  go_region
  obtain ⟨w3, hw3⟩ : ∃ w3, w3 = (((setMap w1.drew M ob).setCell ⟨w.heap.size, 0, none⟩ (Value.int .i64 x.s.k)).setCell ⟨w.heap.size, 1, none⟩ (Value.int .i64 x.s.v)).drew := ⟨_, rfl⟩
  rw [← hw3]
  have hgF : ¬ F w.heap.size := fun q => absurd (h.flt _ q) (by omega)
  have og : Only (fun b => b = w.heap.size) (setMap w1.drew M ob) w3 := by
    rw [hw3]
    exact ((Only.setCell (S := fun b => b = w.heap.size) _ rfl _).trans (Only.setCell (S := fun b => b = w.heap.size) _ rfl _)).trans (Only.drew _ _)
  have h3 := h2.kept og (fun b q e => hgF (e ▸ q))
  have g0' : w3.cell? ⟨w.heap.size, 0, none⟩ = some (Value.int .i64 x.s.k) := by
    rw [hw3, World.cell?_drew, cell_set_ne _ (by simp)]
    exact World.cell?_setCell_same _ _ _ g0
  have g1' : w3.cell? ⟨w.heap.size, 1, none⟩ = some (Value.int .i64 x.s.v) := by
    rw [hw3, World.cell?_drew]
    refine World.cell?_setCell_same _ _ _ (u := Value.int .i64 0) ?_
    rw [cell_set_ne _ (by simp)]; exact g1
  have hlt3 : w.heap.size < w3.heap.size := lt_of_cell g0'
  have o3 : Only F w w3 := (Only.alloc F w gone).trans oa |>.then og (fun i e => .inr (by omega))
  clear hw3 g0 g1 gf hxk hxv n2 c2 m2 oa og h2 hxM m1' m1 n1 c1 o1
  have HH := hide hlt3
  have h4 : At F (w3.alloc (fresh k v)) c M (upd f (K x.s.k) none) room (A ++ B) := h3.alloc _
  have hm1 := h4.core.base.m
  go_wp2_with (at_mapUpdate; refine wpList_mapUpdate_is _ rfl _ _ _ 31 rfl undM undK rfl h4.map _ _ rfl rfl (isk k) ?_; intro ob hmap)
  have hnode : NodeAt K V 1 (w3.alloc (fresh k v)) ⟨w3.heap.size, ⟨k, v, 0⟩⟩ := NodeAt.made (K := K) (V := V) w3 34 k v
  have hnF : ¬ F w3.heap.size := fun q => absurd (h3.flt _ q) (by omega)
  obtain ⟨c1, n1, d1, d2, o1, hlt⟩ := h4.put_new hnode hnF ob
  obtain ⟨n, u1, u2, u3, u4, e1, e2, e3, e4, e5, e6, e7, e8, e9, e10⟩ := c1.then_first (S := fun b => F b ∨ b = w3.heap.size) n1 hmap d1 d2 (o1.mono fun _ _ q => .inl q) (.inl h.fc) (fun y hy => .inl (h4.fl y hy)) (.inr rfl)
  refine (first_walk c w3.heap.size n.1 n.2 u1 u2 u3 u4 _ e1 e2 e3 e4 e5 e6 e7 e8 e9).mono ?_
  clear e1 e2 e3 e4 e5 e6 e7 e8 e9
  rintro e w2 ⟨rfl, hlk⟩
  obtain ⟨c3, m3, o5⟩ := e10 w2 hlk
  clear e10 hlk
  have hkk : ∀ y ∈ A ++ B, y.s.k ≠ k := fun y hy => HK.out y ((perm_mid A B x).mem_iff.1 (List.mem_cons_of_mem _ hy))
  have hfin := h4.came inj (x := ⟨w3.heap.size, ⟨k, v, 0⟩⟩) hkk c3 m3 o5.size (Nat.lt_of_lt_of_le hlt o5.size)
  have oall : Only (fun b => F b ∨ b = w3.heap.size) w3 w2 := (Only.alloc _ _ _).trans o5
  have hgc : ∀ i : Nat, w2.cell? ⟨w.heap.size, i, none⟩ = w3.cell? ⟨w.heap.size, i, none⟩ := fun i =>
    oall.cell (p := ⟨w.heap.size, i, none⟩) HH.out (fun q => q.elim hgF (fun q => absurd HH.out (by simp only at q; omega)))
  have g0 := (hgc 0).trans g0'
  have g1 := (hgc 1).trans g1'
  have ofin : Only F w w2 := o3.then oall (fun i q => q.elim .inl (fun q => .inr (by have := o3.size; omega)))
  have hsz := o3.size
  clear oall o3 o1 c3 m3 c1 n1 hmap hnode hgc g0' g1' hm1 h4 h3 o5 hkk d1 d2
  go_wp2_with fail
  go_region
  go_wp2_with fail
  (try simp only [Exit.inBlock, Exit.then])
  refine bodyPost_ret (results_tmp4 rfl _ _ _) rfl ?_
  exact ⟨_, _, _, rfl, hfin.drew, ofin.trans (Only.drew F _), fun b q => q.elim .inl (fun q => .inr (by omega))⟩
end

/-- a key and a value, or the zero ones -/
def keyG (o : Option (Slot Int Int)) : Int := match o with | some s => s.k | none => 0
def valG (o : Option (Slot Int Int)) : Int := match o with | some s => s.v | none => 0

theorem put_any {F : Nat → Prop} {w : World} {c : Nat} {room : Int} {S : List (Slot Int Int)} (h : Is F w c room S) (k : Int) (v : Int) :
    Calls Tryz.prog 8 #[.pointer (some ⟨c, 0, none⟩), Value.int .i64 k, Value.int .i64 v] w fun e w' => ∃ F', e = .returned (.tuple #[Value.int .i64 (keyG (putS room S k v).2.1), Value.int .i64 (valG (putS room S k v).2.1), .bool (putS room S k v).2.1.isSome, .bool (putS room S k v).2.2]) ∧
      Is F' w' c room (putS room S k v).1 ∧ Only F w w' ∧ ∀ b, F' b → F b ∨ w.heap.size ≤ b := by
  rcases h.cases inj k with ⟨M, f, A, x, B, h, hS, hk, hf, hs, hw⟩ | ⟨M, f, L, h, hS, hf, hs, hk⟩
  · have e : putS room S k v = ({ x.s with v := v } :: (A ++ B).map (·.s), none, true) := by simp [putS, hs, hw]
    rw [e]
    refine (put_old h hf v).mono ?_
    rintro e' w' ⟨rfl, h', o⟩
    exact ⟨F, rfl, ⟨M, f, _, h', rfl⟩, o, fun b q => .inl q⟩
  · have hlen : S.length = L.length := by rw [← hS]; simp
    by_cases h0 : room = 0
    · have e : putS room S k v = (S, none, false) := by simp [putS, hs, h0]
      rw [e]
      subst h0
      refine (put_noroom h hf v).mono ?_
      rintro e' w' ⟨rfl, h', o⟩
      exact ⟨F, rfl, ⟨M, f, L, h', hS⟩, o, fun b q => .inl q⟩
    · have hb0 : (room == 0) = false := by simp [h0]
      by_cases hfull : room ≤ (S.length : Int)
      · rw [hlen] at hfull
        by_cases hid : ∀ y ∈ L, y.s.pins ≠ 0
        · have e : putS room S k v = (S, none, false) := by
            have : idleS S = none := idleS_none (by rw [← hS]; intro s q; obtain ⟨y, hy, rfl⟩ := List.mem_map.1 q; exact hid y hy)
            simp [putS, hs, h0, hlen, hfull, this]
          rw [e]
          refine (put_full h hb0 hfull hid hf v).mono ?_
          rintro e' w' ⟨rfl, h', o⟩
          exact ⟨F, rfl, ⟨M, f, L, h', hS⟩, o, fun b q => .inl q⟩
        · obtain ⟨A, x, B, rfl, hx0, hB⟩ := last_idle L hid
          have hn := h.kNodup
          rw [List.map_append, List.map_cons] at hn hS
          have e : putS room S k v = (⟨k, v, 0⟩ :: (A ++ B).map (·.s), some x.s, true) := by
            have h1 : idleS S = some x.s := by rw [← hS]; exact idleS_mid hx0 (fun s q => by obtain ⟨y, hy, rfl⟩ := List.mem_map.1 q; exact hB y hy)
            have h2 : without S x.s.k = (A ++ B).map (·.s) := by rw [← hS, without_mid hn, List.map_append]
            have h3 : room ≤ (S.length : Int) := by rw [hlen]; exact hfull
            simp only [putS, hs, if_neg h0, if_pos h3, h1, h2]
          rw [e]
          refine (put_evict h hb0 hfull hx0 hB hf hk v).mono ?_
          rintro e' w' ⟨F', f', b, rfl, h', o, hF⟩
          exact ⟨F', rfl, ⟨M, f', _, h', rfl⟩, o, hF⟩
      · have e : putS room S k v = (⟨k, v, 0⟩ :: S, none, true) := by simp only [putS, hs, if_neg h0, if_neg hfull]
        rw [e]
        refine (put_new h hb0 (by omega) hf hk v).mono ?_
        rintro e' w' ⟨F', f', b, rfl, h', o, hF⟩
        exact ⟨F', rfl, ⟨M, f', _, h', by simp [hS]⟩, o, hF⟩

end II
end Go.Proofs.YtdgnfdheofacgaaGreat
