/- Plain facts on slices: one that reads as a list ('Has'); cut; appended to a row of the call's own, with the word that nothing but the new value's own block has turned. No program. -/
import Derived.Test.YtdgnfdheofacgaaGreatRow
import Derived.RegionTactic
import Derived.OwnWalk
namespace Go.Proofs.YtdgnfdheofacgaaGreat
open Go.RowKit

theorem row_lower {W : World} {base base' : Nat} {e : TypeId} {size : Nat} {v : Value} {k : Nat} {xs : List Value} (h : W.ownsRow base e size v k xs) (hb : base' ≤ base) : W.ownsRow base' e size v k xs := by
  obtain ⟨h1, h2⟩ := h
  refine ⟨h1, ?_⟩
  rcases h2 with h2 | ⟨g, cap, cur, rfl, hg, r⟩
  · exact .inl h2
  · exact .inr ⟨g, cap, cur, rfl, Nat.le_trans hb hg, r⟩

/-- The slice value v of n elements, each of size cells, reads as the cells xs. -/
def Has (w : World) (size : Nat) (v : Value) (n : Nat) (xs : List Value) : Prop :=
  xs.length = n * size ∧ ∃ a cap, v = .slice a n cap ∧ n ≤ cap ∧ cap ≤ maxLen ∧ (n = 0 ∨ ∃ b off, a = some ⟨b, off, none⟩ ∧ ∀ j u, xs[j]? = some u → w.cell? ⟨b, off + j, none⟩ = some u)

section
variable {w w' : World} {size n : Nat} {v : Value} {xs : List Value}

theorem Has.nil (w : World) (size : Nat) : Has w size (.slice none 0 0) 0 [] := ⟨by simp, none, 0, rfl, Nat.le_refl _, Nat.zero_le _, .inl rfl⟩

theorem Has.own {base : Nat} {e : TypeId} (h : w.ownsRow base e size v n xs) : Has w size v n xs := by
  refine ⟨h.1, ?_⟩
  rcases h.2 with ⟨rfl, rfl⟩ | ⟨g, cap, cur, rfl, hg, hh, hc, hm, _⟩
  · exact ⟨none, 0, rfl, Nat.le_refl _, Nat.zero_le _, .inl rfl⟩
  · refine ⟨_, cap, rfl, hc, hm, .inr ⟨g, 0, rfl, fun j u hu => ?_⟩⟩
    have := h.cells (g := g) rfl j u hu
    by_cases e : j = 0
    · subst e; simpa [Addr.add] using this
    · simpa [Addr.add, e] using this

theorem Has.shape (h : Has w size v n xs) : ∃ a cap, v = .slice a n cap := by
  obtain ⟨_, a, cap, e, _⟩ := h
  exact ⟨a, cap, e⟩

/-- What reads the cells, reads. -/
theorem Has.keep (h : Has w size v n xs) (hk : ∀ b o u, v.ownBlock = some b → w.cell? ⟨b, o, none⟩ = some u → w'.cell? ⟨b, o, none⟩ = some u) : Has w' size v n xs := by
  obtain ⟨hl, a, cap, rfl, hc, hm, h⟩ := h
  refine ⟨hl, a, cap, rfl, hc, hm, ?_⟩
  rcases h with h | ⟨b, off, rfl, h⟩
  · exact .inl h
  · exact .inr ⟨b, off, rfl, fun j u hu => hk b _ _ rfl (h j u hu)⟩

theorem Has.only {S : Nat → Prop} (h : Has w size v n xs) (o : Only S w w') (hS : ∀ b, v.ownBlock = some b → ¬ S b) : Has w' size v n xs :=
  h.keep fun b off _ hb hu => (o.cell (p := ⟨b, off, none⟩) (lt_of_cell hu) (hS b hb)).trans hu

/-- What is written is new. -/
theorem Has.young {S : Nat → Prop} (h : Has w size v n xs) (o : Only S w w') (hS : ∀ b, S b → w.heap.size ≤ b) : Has w' size v n xs :=
  h.keep fun b off _ _ hu => (o.cell (p := ⟨b, off, none⟩) (lt_of_cell hu) (fun q => absurd (lt_of_cell hu) (Nat.not_lt.2 (hS b q)))).trans hu

theorem Has.below (h : Has w size v n xs) (hb : Below w.heap.size w w') : Has w' size v n xs := h.keep fun b off _ _ hu => (hb.cell (p := ⟨b, off, none⟩) (lt_of_cell hu)).trans hu

theorem Has.like (h : Has w size v n xs) (hk : Like w' w) : Has w' size v n xs := h.only (hk.only (fun _ => False)) (fun _ _ q => q)
theorem Has.alloc (h : Has w size v n xs) (o : Obj) : Has (w.alloc o) size v n xs := h.only (Only.alloc (fun _ => False) w o) (fun _ _ q => q)
theorem Has.drew (h : Has w size v n xs) : Has w.drew size v n xs := h.like ⟨rfl, rfl, rfl, rfl⟩
theorem Has.drewN (h : Has w size v n xs) (k : Nat) : Has (w.drewN k) size v n xs := h.like ⟨rfl, rfl, rfl, rfl⟩

/-- What is written is new since B. -/
theorem new_below {w w1 w2 : World} {S : Nat → Prop} (h : Below w.heap.size w w1) (o : Only S w1 w2) (hS : ∀ b, S b → w.heap.size ≤ b) : Below w.heap.size w w2 := h.trans (o.below h.size hS)

/-- The cell of a place. -/
theorem Has.at_ (h : Has w size v n xs) {k : Nat} (hk : k < n) : ∃ b off cap, v = .slice (some ⟨b, off, none⟩) n cap ∧ ∀ j u, xs[j]? = some u → w.cell? ⟨b, off + j, none⟩ = some u := by
  obtain ⟨hl, a, cap, rfl, hc, hm, h⟩ := h
  rcases h with h | ⟨b, off, rfl, h⟩
  · omega
  · exact ⟨b, off, cap, rfl, h⟩

/-- A new block, whole, as the slice of one element. -/
theorem Has.new (w : World) (cs : Array Value) (e : TypeId) (c : Nat) (h1 : 1 ≤ c) (hc : c ≤ maxLen) : Has (w.alloc (.cells cs e)) cs.size (.slice (some ⟨w.heap.size, 0, none⟩) 1 c) 1 cs.toList := by
  refine ⟨by simp, _, c, rfl, h1, hc, .inr ⟨_, 0, rfl, fun j u hu => ?_⟩⟩
  rw [World.cell?_alloc_new]
  simpa using hu

/-- .. of one cell -/
theorem Has.one (w : World) (x : Value) (e : TypeId) : Has (w.alloc (.cells #[x] e)) 1 (.slice (some ⟨w.heap.size, 0, none⟩) 1 1) 1 [x] := Has.new w #[x] e 1 (Nat.le_refl _) (by unfold maxLen; omega)

/-- A new block, whole, as a row of the call's own. -/
theorem own_new (w : World) (cs : Array Value) (e : TypeId) : (w.alloc (.cells cs e)).ownsRow w.heap.size e cs.size (.slice (some ⟨w.heap.size, 0, none⟩) 1 1) 1 cs.toList :=
  ⟨by simp, .inr ⟨w.heap.size, 1, cs, rfl, Nat.le_refl _, heap_alloc_new w _, Nat.le_refl _, by unfold maxLen; omega, by simp, by rw [Nat.one_mul, ← Array.length_toList, List.take_length]⟩⟩

/-- A part of it, as the model cuts it. -/
theorem Has.cut (h : Has w size v n xs) {lo hi : Nat} (h1 : lo ≤ hi) (h2 : hi ≤ n) {P : Program} {t e : TypeId} {i : TypeInfo} (ht : P.underlying t = some (.slice e)) (hi' : P.info? e = some i) (hs : i.size = size) :
    ∃ u, (∀ w' : World, (Instr.slice t v (some (.int .i64 lo)) (some (.int .i64 hi)) none).run P w' = .ok u w') ∧ Has w size u (hi - lo) ((xs.drop (lo * size)).take ((hi - lo) * size)) := by
  obtain ⟨hl, a, cap, rfl, hc, hm, h⟩ := h
  refine ⟨.slice (if cap = lo then a else a.map (·.add (lo * size))) (hi - lo) (cap - lo), fun w' => ?_, ?_, _, _, rfl, by omega, by omega, ?_⟩
  · have e2 : hi ≤ cap := by omega
    simp [Instr.slice, Instr.sliceBounds, Instr.sliceBound, run_underlying ht, asIntOf, Result.andThen, h1, e2, sizeOf, typeInfo, hi', hs]
  · rw [List.length_take, List.length_drop, hl, ← Nat.sub_mul]
    exact Nat.min_eq_left (Nat.mul_le_mul_right _ (by omega))
  · rcases h with h | ⟨b, off, rfl, h⟩
    · exact .inl (by omega)
    · by_cases e0 : hi - lo = 0
      · exact .inl e0
      · refine .inr ⟨b, off + lo * size, ?_, fun j u hu => ?_⟩
        · rw [if_neg (by omega)]
          simp only [Option.map_some, Addr.add]
          by_cases e3 : lo * size = 0
          · rw [if_pos e3, e3]; rfl
          · rw [if_neg e3]
        · rw [Nat.add_assoc]
          refine h _ u ?_
          have hj : j < (hi - lo) * size := by
            have := (List.getElem?_eq_some_iff.1 hu).1
            rw [List.length_take] at this; omega
          rw [List.getElem?_take, if_pos hj, List.getElem?_drop] at hu
          exact hu

/-- 's[:hi]' -/
theorem Has.cutTo (h : Has w size v n xs) {hi : Nat} (h2 : hi ≤ n) {P : Program} {t e : TypeId} {i : TypeInfo} (ht : P.underlying t = some (.slice e)) (hi' : P.info? e = some i) :
    ∃ u, (∀ w' : World, (Instr.slice t v none (some (.int .i64 hi)) none).run P w' = .ok u w') ∧ Has w size u hi (xs.take (hi * size)) := by
  obtain ⟨hl, a, cap, rfl, hc, hm, h⟩ := h
  refine ⟨.slice (if cap = 0 then a else a.map (·.add (0 * size))) (hi - 0) (cap - 0), fun w' => ?_, ?_, _, _, rfl, by omega, by omega, ?_⟩
  · have e2 : hi ≤ cap := by omega
    simp [Instr.slice, Instr.sliceBounds, Instr.sliceBound, run_underlying ht, asIntOf, Result.andThen, e2, sizeOf, typeInfo, hi']
  · rw [List.length_take, hl]
    exact Nat.min_eq_left (Nat.mul_le_mul_right _ (by omega))
  · rcases h with h | ⟨b, off, rfl, h⟩
    · exact .inl (by omega)
    · by_cases e0 : hi = 0
      · exact .inl (by omega)
      · refine .inr ⟨b, off, ?_, fun j u hu => ?_⟩
        · rw [if_neg (by omega)]
          simp [Addr.add]
        · refine h _ u ?_
          have hj : j < hi * size := by
            have := (List.getElem?_eq_some_iff.1 hu).1
            rw [List.length_take] at this; omega
          rw [List.getElem?_take, if_pos hj] at hu
          exact hu

/-- 's[lo:]' -/
theorem Has.cutFrom (h : Has w size v n xs) {lo : Nat} (h2 : lo ≤ n) {P : Program} {t e : TypeId} {i : TypeInfo} (ht : P.underlying t = some (.slice e)) (hi' : P.info? e = some i) (hs : i.size = size) :
    ∃ u, (∀ w' : World, (Instr.slice t v (some (.int .i64 lo)) none none).run P w' = .ok u w') ∧ Has w size u (n - lo) (xs.drop (lo * size)) := by
  obtain ⟨hl, a, cap, rfl, hc, hm, h⟩ := h
  refine ⟨.slice (if cap = lo then a else a.map (·.add (lo * size))) (n - lo) (cap - lo), fun w' => ?_, ?_, _, _, rfl, by omega, by omega, ?_⟩
  · simp [Instr.slice, Instr.sliceBounds, Instr.sliceBound, run_underlying ht, asIntOf, Result.andThen, h2, sizeOf, typeInfo, hi', hs]
  · rw [List.length_drop, hl, ← Nat.sub_mul]
  · rcases h with h | ⟨b, off, rfl, h⟩
    · exact .inl (by omega)
    · by_cases e0 : n - lo = 0
      · exact .inl e0
      · refine .inr ⟨b, off + lo * size, ?_, fun j u hu => ?_⟩
        · rw [if_neg (by omega)]
          simp only [Option.map_some, Addr.add]
          by_cases e3 : lo * size = 0
          · rw [if_pos e3, e3]; rfl
          · rw [if_neg e3]
        · rw [Nat.add_assoc]
          refine h _ u ?_
          rw [List.getElem?_drop] at hu
          exact hu
end

section
variable {P : Program}

/-- append onto a row of the call's own: nothing but the new value's block has turned. -/
theorem run_append_has {w : World} (t ty : TypeId) {e : TypeId} {z : Value} {size bytes : Nat} (ht : P.underlying t = some (.slice e)) (hi : (P.info? e).map (fun i => (i.zero, i.size, i.bytes)) = some (some z, size, bytes))
    (hzs : z.cells.size = size) (hsz : 0 < size) {base n m : Nat} {v u : Value} {xs ys : List Value} (hown : w.ownsRow base e size v n xs) (hu : Has w size u m ys) (h1 : ∀ c ∈ ys, c.oneCell' = true)
    (hb0 : 0 < bytes) (hbytes : (n + m) * bytes ≤ 140737488355328) (hbase : base ≤ w.heap.size) :
    ∃ v' w', (Builtin.append_ #[t, t] ty #[v, u]).run P w = .ok v' w' ∧ w'.ownsRow base e size v' (n + m) (xs ++ ys) ∧ Only (fun b => v'.ownBlock = some b) w w' ∧
      (∀ b, v'.ownBlock = some b → v.ownBlock = some b ∨ w.heap.size ≤ b) := by
  obtain ⟨i, hinf, hz, hsize, hby⟩ := info_parts hi
  clear hi
  have hi := hinf
  clear hinf
  subst hsize
  subst hby
  have hle : n + m ≤ 140737488355328 := Nat.le_trans (Nat.le_mul_of_pos_right _ hb0) hbytes
  have h63 : n + m ≤ maxLen := by unfold maxLen; omega
  obtain ⟨hl, a, c, rfl, hmc, hcm, hor⟩ := hu
  have hlen : (xs ++ ys).length = (n + m) * i.size := by rw [List.length_append, hown.1, hl, Nat.add_mul]
  cases a with
  | none =>
    have hm : m = 0 := by
      rcases hor with h | ⟨b, off, q, _⟩
      · exact h
      · cases q
    subst hm
    have hn : ys = [] := List.eq_nil_of_length_eq_zero (by simpa using hl)
    subst hn
    refine ⟨v, w, ?_, by simpa using hown, Only.refl _ _, fun b q => .inl q⟩
    rcases hown.2 with ⟨rfl, rfl⟩ | ⟨g, cap, cur, rfl, _, _, hnc, _⟩
    · simp [Builtin.append_, run_underlying ht, sizeOf, typeInfo, hi, Builtin.lenOf, Builtin.firstCells]
    · simp [Builtin.append_, run_underlying ht, sizeOf, typeInfo, hi, Builtin.lenOf, Builtin.firstCells, hnc, storeCells]
  | some ad =>
    have hnews : ∀ j u, ys[j]? = some u → w.cell? (ad.add j) = some u := by
      intro j u hu
      rcases hor with h | ⟨b, off, q, h⟩
      · subst h
        have hn : ys = [] := List.eq_nil_of_length_eq_zero (by simpa using hl)
        subst hn
        simp at hu
      · cases q
        have := h j u hu
        by_cases e0 : j = 0
        · subst e0; simpa [Addr.add] using this
        · simpa [Addr.add, e0] using this
    rcases hown.2 with ⟨rfl, rfl⟩ | ⟨g, cap, cur, rfl, hbg, hg, hnc, hcm', hcs, htake⟩
    · obtain ⟨v', w', hr, h2, h3, _, h5⟩ := run_append_own_at (P := P) w base t ty e i z i.size i.bytes ht hi hz rfl rfl hzs hsz _ 0 xs hown ad m c ys hl hnews h1 h63 hbytes hbase
      refine ⟨v', w', hr, h2, (only_of_grown h3).mono (fun b _ q => by cases q), fun b q => ?_⟩
      rcases h5 with h5 | h5
      · rw [h5] at q; cases q
      · rw [h5] at q; exact .inr (by have := Option.some.inj q; omega)
    · by_cases hroom : n + m ≤ cap
      · obtain ⟨v', w', hr, h2, h3, _, h5⟩ := run_append_own_at (P := P) w base t ty e i z i.size i.bytes ht hi hz rfl rfl hzs hsz _ n xs hown ad m c ys hl hnews h1 h63 hbytes hbase
        have hfit : n * i.size + ys.length ≤ cur.size := by rw [hl, hcs, ← Nat.add_mul]; exact Nat.mul_le_mul_right _ hroom
        have hr2 := run_append_room (P := P) w t ty e i ht hi g n cap cur hg ad m c ys hl hnews h1 hroom hfit
        rw [hr] at hr2
        have hv : v' = .slice (some ⟨g, 0, none⟩) (n + m) cap := by injection hr2
        subst hv
        exact ⟨_, w', hr, h2, (only_of_grown h3).mono (fun b _ q => q.symm), fun b q => .inl q⟩
      · have holds : ∀ j u, xs[j]? = some u → w.cell? ((⟨g, 0, none⟩ : Addr).add j) = some u := hown.cells (g := g) rfl
        have hsmall : n + m ≤ 9223372036854775807 := by omega
        have hr := run_append_grow (P := P) w t ty e i z ht hi hz ⟨g, 0, none⟩ n cap xs hown.1 holds ad m c ys hl hnews (by omega) (by omega) (growslice_fits (by omega) hbytes)
        have hge := grownCap_ge w (n + m) cap e
        have hcm : grownCap w (n + m) cap e ≤ maxLen := grownCap_le_maxLen w (n + m) cap e h63
        refine ⟨_, _, hr, ⟨hlen, .inr ⟨w.heap.size, _, _, rfl, hbase, heap_alloc_new w.drew _, hge, hcm, ?_, ?_⟩⟩, ⟨rfl, rfl, rfl, by simp, fun k hk _ => Below.heap_alloc w.drew _ k hk⟩, fun b q => .inr (by have := Option.some.inj q; simp at this; omega)⟩
        · simp only [Array.size_append, List.size_toArray, size_zeroCells, hzs, hown.1, hl, ← Nat.add_mul]
          congr 1
          omega
        · simp only [Array.toList_append, List.append_assoc]
          rw [← List.append_assoc, ← hlen]
          exact List.take_left

theorem wp_append_has {w : World} {o : Oper} {a : Act} {K : Act → World → Prop} {Q : Exit → Act → World → Prop} (s y : Operand) (t : TypeId)
    (ho : o.op = .call { callee := .builtin .append, args := #[s, y], argTypes := #[t, t] })
    {e : TypeId} {z : Value} {size bytes : Nat} (ht : P.underlying t = some (.slice e)) (hi : (P.info? e).map (fun i => (i.zero, i.size, i.bytes)) = some (some z, size, bytes))
    (hzs : z.cells.size = size) (hsz : 0 < size) {base n m : Nat} {v u : Value} {xs ys : List Value} (hs : a.eval s = v) (hy : a.eval y = u) (hown : w.ownsRow base e size v n xs) (hu : Has w size u m ys) (h1 : ∀ c ∈ ys, c.oneCell' = true)
    (hb0 : 0 < bytes) (hbytes : (n + m) * bytes ≤ 140737488355328) (hbase : base ≤ w.heap.size)
    (h : ∀ v' w', w'.ownsRow base e size v' (n + m) (xs ++ ys) → Only (fun b => v'.ownBlock = some b) w w' → (∀ b, v'.ownBlock = some b → v.ownBlock = some b ∨ w.heap.size ≤ b) → K (a.put o.dst v') w') : o.wp P a w K Q := by
  obtain ⟨v', w', hr, h2, h3, h4⟩ := run_append_has (P := P) t o.type ht hi hzs hsz hown hu h1 hb0 hbytes hbase
  unfold Oper.wp execOp
  simp only [ho, resolve, invoke, builtin, Sem.run_bind, Sem.run_pure, Result.andThen_ok, List.map_toArray, List.map_cons, List.map_nil, hs, hy, hr]
  exact h v' w' h2 h3 h4

theorem wpList_append_has {w : World} {ops : Array Oper} {rest : List Oper} {o : Oper} {a : Act} {Q : Exit → Act → World → Prop} (hgd : o.guard = none) (s y : Operand) (t : TypeId)
    (ho : o.op = .call { callee := .builtin .append, args := #[s, y], argTypes := #[t, t] })
    {e : TypeId} {z : Value} {size bytes : Nat} (ht : P.underlying t = some (.slice e)) (hi : (P.info? e).map (fun i => (i.zero, i.size, i.bytes)) = some (some z, size, bytes))
    (hzs : z.cells.size = size) (hsz : 0 < size) {base n m : Nat} {v u : Value} {xs ys : List Value} (hs : a.eval s = v) (hy : a.eval y = u) (hown : w.ownsRow base e size v n xs) (hu : Has w size u m ys) (h1 : ∀ c ∈ ys, c.oneCell' = true)
    (hb0 : 0 < bytes) (hbytes : (n + m) * bytes ≤ 140737488355328) (hbase : base ≤ w.heap.size)
    (h : ∀ v' w', w'.ownsRow base e size v' (n + m) (xs ++ ys) → Only (fun b => v'.ownBlock = some b) w w' → (∀ b, v'.ownBlock = some b → v.ownBlock = some b ∨ w.heap.size ≤ b) → wpList P ops Q rest (a.put o.dst v') w') :
    wpList P ops Q (o :: rest) a w :=
  wpList_plain hgd fun _ hK => wp_append_has s y t ho ht hi hzs hsz hs hy hown hu h1 hb0 hbytes hbase fun v' w' h2 h3 h4 => hK _ _ (h v' w' h2 h3 h4)

/-- at a step of a region that draws -/
theorem step_append_has {w : World} {ops : Array Oper} {o : Oper} {a : Act} {K : Act → World → Prop} {Q : Exit → Act → World → Prop} {E : Prop} (hgd : o.guard = none) (s y : Operand) (t : TypeId)
    (ho : o.op = .call { callee := .builtin .append, args := #[s, y], argTypes := #[t, t] })
    {e : TypeId} {z : Value} {size bytes : Nat} (ht : P.underlying t = some (.slice e)) (hi : (P.info? e).map (fun i => (i.zero, i.size, i.bytes)) = some (some z, size, bytes))
    (hzs : z.cells.size = size) (hsz : 0 < size) {base n m : Nat} {v u : Value} {xs ys : List Value} (hs : a.eval s = v) (hy : a.eval y = u) (hown : w.ownsRow base e size v n xs) (hu : Has w size u m ys) (h1 : ∀ c ∈ ys, c.oneCell' = true)
    (hb0 : 0 < bytes) (hbytes : (n + m) * bytes ≤ 140737488355328) (hbase : base ≤ w.heap.size)
    (h : ∀ v' w', w'.ownsRow base e size v' (n + m) (xs ++ ys) → Only (fun b => v'.ownBlock = some b) w w' → (∀ b, v'.ownBlock = some b → v.ownBlock = some b ∨ w.heap.size ≤ b) → K (a.put o.dst v') w') :
    if Region.wanted o (yielded ops a.tmps) = true then Oper.wp P o a w K Q else E := by
  have hw : Region.wanted o (yielded ops a.tmps) = true := by simp [Region.wanted, hgd]
  rw [if_pos hw]
  exact wp_append_has s y t ho ht hi hzs hsz hs hy hown hu h1 hb0 hbytes hbase h
end

/-- rows of two element types lie in two blocks -/
theorem own_ne {w : World} {b1 b2 : Nat} {e1 e2 : TypeId} {s1 s2 n1 n2 : Nat} {v1 v2 : Value} {x1 x2 : List Value} (h1 : w.ownsRow b1 e1 s1 v1 n1 x1) (h2 : w.ownsRow b2 e2 s2 v2 n2 x2) (hne : e1 ≠ e2) {b : Nat} (q : v1.ownBlock = some b) : v2.ownBlock ≠ some b := by
  intro r
  rcases h1.2 with ⟨rfl, _⟩ | ⟨g, _, _, rfl, _, hh, _⟩
  · cases q
  · rcases h2.2 with ⟨rfl, _⟩ | ⟨g', _, _, rfl, _, hh', _⟩
    · cases r
    · have e : g = g' := by
        simp only [Value.ownBlock, Option.some.injEq] at q r
        omega
      subst e
      rw [hh] at hh'
      injection hh' with hh'
      injection hh' with _ ht
      exact hne ht

/-- the slice stands at its block's begin -/
def Fore (v : Value) : Prop := ∀ b off n c, v = .slice (some ⟨b, off, none⟩) n c → off = 0

theorem fore_own {w : World} {base : Nat} {e : TypeId} {size n : Nat} {v : Value} {xs : List Value} (h : w.ownsRow base e size v n xs) : Fore v := by
  intro b off k c e
  rcases h.2 with ⟨rfl, _⟩ | ⟨g, _, _, rfl, _⟩
  · cases e
  · cases e; rfl

/-- What stands ahead in a row that was appended to, in place or not, reads as it read. -/
theorem Has.grown {w w' : World} {u v' : Value} {n m base : Nat} {e : TypeId} {xs zs : List Value} (h : Has w 1 u n xs) (hf : Fore u) (hown : w'.ownsRow base e 1 v' m zs) (ho : Only (fun b => v'.ownBlock = some b) w w') (hp : zs.take n = xs) : Has w' 1 u n xs := by
  by_cases hb : ∃ b, u.ownBlock = some b ∧ v'.ownBlock = some b
  · obtain ⟨b, h1, h2⟩ := hb
    obtain ⟨hl, a, cap, rfl, hc, hm, hor⟩ := h
    refine ⟨hl, a, cap, rfl, hc, hm, ?_⟩
    rcases hor with h0 | ⟨b', off, rfl, _⟩
    · exact .inl h0
    · have hof : off = 0 := hf _ _ _ _ rfl
      subst hof
      have e1 : b' = b := by simpa [Value.ownBlock] using h1
      subst e1
      refine .inr ⟨b', 0, rfl, fun j x hj => ?_⟩
      rw [← hp] at hj
      have hjl := (List.getElem?_eq_some_iff.1 hj).1
      rw [List.length_take] at hjl
      rw [List.getElem?_take, if_pos (by omega)] at hj
      have := hown.cells h2 j x hj
      by_cases e0 : j = 0
      · subst e0; simpa [Addr.add] using this
      · simpa [Addr.add, e0] using this
  · exact h.only ho fun b h1 h2 => hb ⟨b, h1, h2⟩

end Go.Proofs.YtdgnfdheofacgaaGreat
