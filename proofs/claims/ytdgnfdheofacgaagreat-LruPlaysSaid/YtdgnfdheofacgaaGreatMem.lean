/- Plain facts about the model's memory, of no program: what may have turned ('Only'); a map's block as a function from keys to values ('MapIs'). -/
import Derived.WalkKit
import Derived.MapKept
import Derived.Deep.Draws
import Derived.LaidEqlPtr
import Derived.Maps.OwnSet
namespace Go.Proofs.YtdgnfdheofacgaaGreat
open Go.RowKit Go.MapKept

/-- A fact that the walk does not see. -/
theorem hide {p : Prop} (h : p) : Hid p := h

/-- Of the blocks that were there, those that meet S alone may have turned; new ones may have come. -/
structure Only (S : Nat → Prop) (w w' : World) : Prop where
  os : w'.os = w.os
  tape : w'.tape = w.tape
  output : w'.output = w.output
  size : w.heap.size ≤ w'.heap.size
  block : ∀ b, b < w.heap.size → ¬ S b → w'.heap[b]? = w.heap[b]?

theorem Only.refl (S : Nat → Prop) (w : World) : Only S w w := ⟨rfl, rfl, rfl, Nat.le_refl _, fun _ _ _ => rfl⟩

theorem Only.trans {S : Nat → Prop} {a b c : World} (h : Only S a b) (k : Only S b c) : Only S a c :=
  ⟨k.os.trans h.os, k.tape.trans h.tape, k.output.trans h.output, Nat.le_trans h.size k.size,
    fun i hi hs => (k.block i (Nat.lt_of_lt_of_le hi h.size) hs).trans (h.block i hi hs)⟩

theorem Only.mono {S T : Nat → Prop} {a b : World} (h : Only S a b) (hs : ∀ i, i < a.heap.size → S i → T i) : Only T a b :=
  ⟨h.os, h.tape, h.output, h.size, fun i hi ht => h.block i hi (fun x => ht (hs i hi x))⟩

/-- Two steps; the second may also turn what the first has made. -/
theorem Only.then {S T : Nat → Prop} {a b c : World} (h : Only S a b) (k : Only T b c) (hT : ∀ i, T i → S i ∨ a.heap.size ≤ i) : Only S a c :=
  ⟨k.os.trans h.os, k.tape.trans h.tape, k.output.trans h.output, Nat.le_trans h.size k.size,
    fun i hi hs => (k.block i (Nat.lt_of_lt_of_le hi h.size) (fun t => (hT i t).elim hs (fun q => absurd hi (Nat.not_lt.2 q)))).trans (h.block i hi hs)⟩

theorem Only.drew (S : Nat → Prop) (w : World) : Only S w w.drew := ⟨rfl, rfl, rfl, Nat.le_refl _, fun _ _ _ => rfl⟩

theorem Only.alloc (S : Nat → Prop) (w : World) (o : Obj) : Only S w (w.alloc o) :=
  ⟨rfl, rfl, rfl, by simp, fun b hb _ => Below.heap_alloc w o b hb⟩

theorem Only.setCell {S : Nat → Prop} (w : World) {a : Addr} (ha : S a.block) (v : Value) : Only S w (w.setCell a v) :=
  ⟨rfl, rfl, rfl, by simp, fun b _ hs => Below.heap_setCell w a v b (fun e => hs (e ▸ ha))⟩

/-- A map's block gets other entries. -/
def setMap (w : World) (M : Nat) (o : Obj) : World := { w with heap := w.heap.setIfInBounds M o }

@[simp] theorem size_setMap (w : World) (M : Nat) (o : Obj) : (setMap w M o).heap.size = w.heap.size := by simp [YtdgnfdheofacgaaGreat.setMap]

theorem Only.setMap {S : Nat → Prop} (w : World) {M : Nat} (ha : S M) (o : Obj) : Only S w (setMap w M o) :=
  ⟨rfl, rfl, rfl, by simp [YtdgnfdheofacgaaGreat.setMap], fun b _ hs => by
    have hne : b ≠ M := fun e => hs (e ▸ ha)
    simp [YtdgnfdheofacgaaGreat.setMap, Ne.symm hne]⟩

theorem Only.cell {S : Nat → Prop} {w w' : World} (h : Only S w w') {p : Addr} (hp : p.block < w.heap.size) (hs : ¬ S p.block) : w'.cell? p = w.cell? p :=
  World.cell?_of_block (w := w) (h.block p.block hp hs)

theorem Only.frozen {S : Nat → Prop} {w w' : World} (h : Only S w w') {p : Addr} (hp : p.block < w.heap.size) (hs : ¬ S p.block) : w'.frozen? p = w.frozen? p :=
  World.frozen?_of_block (w := w) (h.block p.block hp hs)

theorem Only.below {S : Nat → Prop} {w w' : World} (h : Only S w w') {B : Nat} (hB : B ≤ w.heap.size) (hs : ∀ b, S b → B ≤ b) : Below B w w' :=
  ⟨h.os, h.tape, h.output, h.size, fun k hk => h.block k (Nat.lt_of_lt_of_le hk hB) (fun x => absurd (hs k x) (Nat.not_le.2 hk))⟩

theorem Below.only {w w' : World} {B : Nat} (h : Below B w w') : Only (fun b => B ≤ b) w w' :=
  ⟨h.os, h.tape, h.output, h.size, fun k _ hk => h.block k (Nat.not_le.1 hk)⟩

/-! ### cells behind a store -/
theorem cell_set {w : World} {a : Addr} {u : Value} (v : Value) (h : w.cell? a = some u) (b : Addr) :
    (w.setCell a v).cell? b = if b = a then some v else w.cell? b := by
  by_cases e : b = a
  · subst e; rw [if_pos rfl]; exact World.cell?_setCell_same w b v h
  · rw [if_neg e]; exact World.cell?_setCell_other w a b v (fun q => e q.symm)

theorem cell_set_ne {w : World} {a b : Addr} (v : Value) (h : b ≠ a) : (w.setCell a v).cell? b = w.cell? b :=
  World.cell?_setCell_other w a b v (fun q => h q.symm)

theorem lt_of_cell {w : World} {b o : Nat} {s : Option Nat} {v : Value} (h : w.cell? ⟨b, o, s⟩ = some v) : b < w.heap.size := World.block_lt_of_cell? w ⟨b, o, s⟩ h

theorem cell_alloc {w : World} (o : Obj) {a : Addr} {v : Value} (h : w.cell? a = some v) : (w.alloc o).cell? a = some v :=
  (World.cell?_alloc_lt w o a (World.block_lt_of_cell? w a h)).trans h

theorem lt_of_map {w : World} {M : Nat} {o : Obj} (h : w.heap[M]? = some o) : M < w.heap.size := (Array.getElem?_eq_some_iff.1 h).1

/-- A map's block holds no cell. -/
theorem no_cell_of_map {w : World} {M : Nat} {es : Array MapEntry} {k : Nat} (h : w.heap[M]? = some (.map es k)) (o : Nat) (s : Option Nat) : w.cell? ⟨M, o, s⟩ = none := by
  simp [World.cell?, h]

theorem cell_setMap {w : World} {M : Nat} (o : Obj) {a : Addr} (h : a.block ≠ M) : (setMap w M o).cell? a = w.cell? a :=
  World.cell?_of_block (w := w) (by simp [setMap, Ne.symm h])
theorem frozen_setMap {w : World} {M : Nat} (o : Obj) {a : Addr} (h : a.block ≠ M) : (setMap w M o).frozen? a = w.frozen? a :=
  World.frozen?_of_block (w := w) (by simp [setMap, Ne.symm h])

/-! ### a map's block -/
open Classical in
/-- f, but at k. -/
noncomputable def upd (f : Value → Option Value) (k : Value) (o : Option Value) : Value → Option Value := fun k' => if k' = k then o else f k'
theorem upd_same (f : Value → Option Value) (k : Value) (o : Option Value) : upd f k o k = o := by simp [upd]
theorem upd_ne (f : Value → Option Value) {k k' : Value} (o : Option Value) (h : k' ≠ k) : upd f k o k' = f k' := by simp [upd, h]

/-- Block M is a map: at k it has f k; n entries. d: the key's type. -/
def MapIs (d : TypeDesc) (w : World) (M : Nat) (f : Value → Option Value) (n : Nat) : Prop :=
  ∃ es clock, w.heap[M]? = some (.map es clock) ∧ es.size = n ∧ (∀ x ∈ es.toList, IsKey d x.key) ∧ (es.toList.map (·.key)).Nodup ∧
    ∀ k v, f k = some v ↔ ∃ e ∈ es.toList, e.key = k ∧ e.val = v

section
variable {d : TypeDesc} {w : World} {M : Nat} {f : Value → Option Value} {n : Nat}

theorem MapIs.lt (h : MapIs d w M f n) : M < w.heap.size := by
  obtain ⟨es, c, hb, _⟩ := h; exact lt_of_map hb

theorem MapIs.noCell (h : MapIs d w M f n) (o : Nat) (s : Option Nat) : w.cell? ⟨M, o, s⟩ = none := by
  obtain ⟨es, c, hb, _⟩ := h; exact no_cell_of_map hb o s

theorem MapIs.ne (h : MapIs d w M f n) {b o : Nat} {s : Option Nat} {v : Value} (hc : w.cell? ⟨b, o, s⟩ = some v) : b ≠ M := by
  intro e; subst e; rw [h.noCell] at hc; cases hc

theorem MapIs.congr (h : MapIs d w M f n) {g : Value → Option Value} (hg : ∀ k, g k = f k) : MapIs d w M g n := by
  have e : g = f := funext hg
  rw [e]; exact h

theorem MapIs.of_block (h : MapIs d w M f n) {w' : World} (hb : w'.heap[M]? = w.heap[M]?) : MapIs d w' M f n := by
  obtain ⟨es, c, h1, h2⟩ := h
  exact ⟨es, c, hb.trans h1, h2⟩

theorem MapIs.kept (h : MapIs d w M f n) {S : Nat → Prop} {w' : World} (hk : Only S w w') (hs : ¬ S M) : MapIs d w' M f n :=
  h.of_block (hk.block M h.lt hs)

theorem MapIs.setCell (h : MapIs d w M f n) {a : Addr} {u : Value} (hc : w.cell? a = some u) (v : Value) : MapIs d (w.setCell a v) M f n :=
  h.of_block (Below.heap_setCell w a v M (fun e => (h.ne (b := a.block) (o := a.off) (s := a.spot) hc) e.symm))

theorem MapIs.alloc (h : MapIs d w M f n) (o : Obj) : MapIs d (w.alloc o) M f n := h.of_block (Below.heap_alloc w o M h.lt)

theorem MapIs.made (w : World) : MapIs d (w.alloc (.map #[] 0)) w.heap.size (fun _ => none) 0 :=
  ⟨#[], 0, (heap_alloc w _).1, rfl, by simp, by simp, by simp⟩

/-- the one entry at a key -/
theorem MapIs.find (h : MapIs d w M f n) {k : Value} (hk : IsKey d k) : ∃ es clock, w.heap[M]? = some (.map es clock) ∧ es.size = n ∧
    ((Instr.findNow d k es.toList 0 = some none ∧ f k = none) ∨ ∃ j e, Instr.findNow d k es.toList 0 = some (some (j, e.val)) ∧ es.toList[j]? = some e ∧ e.key = k ∧ f k = some e.val) := by
  obtain ⟨es, clock, hb, hn, hks, hnd, hf⟩ := h
  refine ⟨es, clock, hb, hn, ?_⟩
  rcases findNow_spec hk es.toList 0 hks with ⟨h1, h2⟩ | ⟨j, e, h1, h2, h3⟩
  · refine .inl ⟨h1, ?_⟩
    cases hq : f k with
    | none => rfl
    | some v =>
      obtain ⟨e, he, hek, _⟩ := (hf k v).1 hq
      exact absurd hek (h2 e he)
  · refine .inr ⟨j, e, by simpa using h1, h2, h3, (hf k e.val).2 ⟨e, List.mem_of_getElem? h2, h3, rfl⟩⟩

variable {P : Program} {t kt et : TypeId}

theorem MapIs.lookup (h : MapIs d w M f n) (ht : P.underlying t = some (.map kt et)) (hd : P.underlying kt = some d) {z : Value} (hz : ∀ w', (zeroValue et).run P w' = .ok z w') {k : Value} (hk : IsKey d k) (ok : Bool) :
    (Instr.lookup t (.map (some M)) k ok).run P w = .ok (if ok then .tuple #[(f k).getD z, .bool (f k).isSome] else (f k).getD z) w := by
  obtain ⟨es, clock, hb, _, hor⟩ := h.find hk
  rcases hor with ⟨h1, h2⟩ | ⟨j, e, h1, _, _, h2⟩
  · simp [Instr.lookup, run_underlying ht, MapKept.run_getObj_map hb, MapKept.run_checkKey hd hk, MapKept.run_findKey hd h1, hz, Result.andThen, h2]
  · simp [Instr.lookup, run_underlying ht, MapKept.run_getObj_map hb, MapKept.run_checkKey hd hk, MapKept.run_findKey hd h1, Result.andThen, h2]

/-- a look-up in a nil map -/
theorem lookup_nil (ht : P.underlying t = some (.map kt et)) (hd : P.underlying kt = some d) {z : Value} (hz : ∀ w', (zeroValue et).run P w' = .ok z w') {k : Value} (hk : IsKey d k) (ok : Bool) :
    (Instr.lookup t (.map none) k ok).run P w = .ok (if ok then .tuple #[z, .bool false] else z) w := by
  have h1 : Instr.findNow d k [] 0 = some none := rfl
  simp [Instr.lookup, run_underlying ht, MapKept.run_checkKey hd hk, MapKept.run_findKey hd h1, hz, Result.andThen]

theorem MapIs.update (h : MapIs d w M f n) (ht : P.underlying t = some (.map kt et)) (hd : P.underlying kt = some d) {k : Value} (hk : IsKey d k) (v : Value) :
    ∃ o, (Instr.mapUpdate t (.map (some M)) k v).run P w = .ok () (setMap w M o) ∧
      MapIs d (setMap w M o) M (upd f k (some v)) (if (f k).isSome then n else n + 1) := by
  obtain ⟨es, clock, hb, hn, hks, hnd, hf⟩ := h
  rcases findNow_spec hk es.toList 0 hks with ⟨h1, h2⟩ | ⟨j, e, h1, h2, h3⟩
  · have hfk : f k = none := by
      cases hq : f k with
      | none => rfl
      | some v =>
        obtain ⟨e, he, hek, _⟩ := (hf k v).1 hq
        exact absurd hek (h2 e he)
    refine ⟨.map (es.push { key := k, val := v, born := clock }) (clock + 1), ?_, es.push { key := k, val := v, born := clock }, clock + 1, (heap_set hb).1, ?_, ?_, ?_, ?_⟩
    · simp [Instr.mapUpdate, run_underlying ht, MapKept.run_getObj_map hb, MapKept.run_checkKey hd hk, MapKept.run_findKey hd h1, MapKept.run_setObj_map _ hb, Result.andThen, setMap]
    · simp [hn, hfk]
    · intro x hx
      simp only [Array.toList_push, List.mem_append, List.mem_singleton] at hx
      rcases hx with hx | rfl
      · exact hks x hx
      · exact hk
    · simp only [Array.toList_push, List.map_append, List.map_cons, List.map_nil]
      refine List.nodup_append.2 ⟨hnd, by simp, ?_⟩
      intro a ha b hb'
      simp only [List.mem_singleton] at hb'
      subst hb'
      obtain ⟨x, hx, rfl⟩ := List.mem_map.1 ha
      exact h2 x hx
    · intro k' v'
      simp only [Array.toList_push, List.mem_append, List.mem_singleton]
      by_cases e : k' = k
      · subst e
        rw [upd_same]
        constructor
        · intro q; cases q; exact ⟨_, .inr rfl, rfl, rfl⟩
        · rintro ⟨x, hx | rfl, hxk, hxv⟩
          · exact absurd hxk (h2 x hx)
          · exact congrArg some hxv
      · rw [upd_ne _ _ e, hf]
        constructor
        · rintro ⟨x, hx, h⟩; exact ⟨x, .inl hx, h⟩
        · rintro ⟨x, hx | rfl, hxk, hxv⟩
          · exact ⟨x, hx, hxk, hxv⟩
          · exact absurd hxk.symm e
  · have hj : es[j]? = some e := by simpa using h2
    have hem : e ∈ es.toList := List.mem_of_getElem? h2
    have hfk : f k = some e.val := (hf k e.val).2 ⟨e, hem, h3, rfl⟩
    have hjl : j < es.toList.length := (List.getElem?_eq_some_iff.1 h2).1
    have hkey : ∀ e', es[j]? = some e' → ({ e' with key := k, val := v } : MapEntry).key = e'.key := fun e' he' => by rw [hj] at he'; cases he'; exact h3.symm
    have hmk := modify_keys j (fun e => { e with key := k, val := v }) hkey
    refine ⟨.map (es.modify j fun e => { e with key := k, val := v }) clock, ?_, es.modify j fun e => { e with key := k, val := v }, clock, (heap_set hb).1, ?_, isKey_modify hks _ _ hkey, by rw [hmk]; exact hnd, ?_⟩
    · simp [Instr.mapUpdate, run_underlying ht, MapKept.run_getObj_map hb, MapKept.run_checkKey hd hk, MapKept.run_findKey hd h1, hj, h3, MapKept.run_keyThatStays hk, MapKept.run_setObj_map _ hb, Result.andThen, setMap]
    · simp [hn, hfk]
    · -- the entries, place by place
      have hget : ∀ i x, (es.modify j fun e => { e with key := k, val := v }).toList[i]? = some x ↔ (i = j ∧ x = { e with key := k, val := v }) ∨ (i ≠ j ∧ es.toList[i]? = some x) := by
        intro i x
        simp only [Array.getElem?_toList, Array.getElem?_modify]
        by_cases hij : j = i
        · subst hij
          rw [if_pos rfl, hj]
          simp only [Option.map_some, Option.some.injEq, true_and, ne_eq, not_true_eq_false, false_and, or_false]
          exact eq_comm
        · rw [if_neg hij]
          constructor
          · intro q; exact .inr ⟨Ne.symm hij, q⟩
          · rintro (⟨q, _⟩ | ⟨_, q⟩)
            · exact absurd q.symm hij
            · exact q
      have huniq : ∀ i x, es.toList[i]? = some x → x.key = k → i = j := by
        intro i x hx hxk
        have hi : i < es.toList.length := (List.getElem?_eq_some_iff.1 hx).1
        have e1 : (es.toList.map (·.key))[i]'(by simpa using hi) = k := by
          rw [List.getElem_map]; rw [← hxk]; congr 1; exact (List.getElem?_eq_some_iff.1 hx).2
        have e2 : (es.toList.map (·.key))[j]'(by simpa using hjl) = k := by
          rw [List.getElem_map]; rw [← h3]; congr 1; exact (List.getElem?_eq_some_iff.1 h2).2
        exact (List.getElem_inj hnd).1 (e1.trans e2.symm)
      intro k' v'
      by_cases e' : k' = k
      · subst e'
        rw [upd_same]
        constructor
        · intro q; cases q
          exact ⟨_, List.mem_of_getElem? ((hget j _).2 (.inl ⟨rfl, rfl⟩)), rfl, rfl⟩
        · rintro ⟨x, hx, hxk, hxv⟩
          obtain ⟨i, hi⟩ := List.mem_iff_getElem?.1 hx
          rcases (hget i x).1 hi with ⟨_, rfl⟩ | ⟨hne, hi'⟩
          · exact congrArg some hxv
          · exact absurd (huniq i x hi' hxk) hne
      · rw [upd_ne _ _ e', hf]
        constructor
        · rintro ⟨x, hx, hxk, hxv⟩
          obtain ⟨i, hi⟩ := List.mem_iff_getElem?.1 hx
          have hne : i ≠ j := by
            rintro rfl
            rw [hi] at h2; cases h2
            exact e' (hxk.symm.trans h3)
          exact ⟨x, List.mem_of_getElem? ((hget i x).2 (.inr ⟨hne, hi⟩)), hxk, hxv⟩
        · rintro ⟨x, hx, hxk, hxv⟩
          obtain ⟨i, hi⟩ := List.mem_iff_getElem?.1 hx
          rcases (hget i x).1 hi with ⟨_, rfl⟩ | ⟨_, hi'⟩
          · exact absurd hxk.symm e'
          · exact ⟨x, List.mem_of_getElem? hi', hxk, hxv⟩

theorem MapIs.delete (h : MapIs d w M f n) (ht : P.underlying t = some (.map kt et)) (hd : P.underlying kt = some d) {k : Value} (hk : IsKey d k) :
    ∃ o, (∀ t2 ty, (Builtin.delete_ #[t, t2] ty #[.map (some M), k]).run P w = .ok (.tuple #[]) (setMap w M o)) ∧
      MapIs d (setMap w M o) M (upd f k none) (if (f k).isSome then n - 1 else n) := by
  obtain ⟨es, clock, hb, hn, hks, hnd, hf⟩ := h
  rcases findNow_spec hk es.toList 0 hks with ⟨h1, h2⟩ | ⟨j, e, h1, h2, h3⟩
  · have hfk : f k = none := by
      cases hq : f k with
      | none => rfl
      | some v =>
        obtain ⟨e, he, hek, _⟩ := (hf k v).1 hq
        exact absurd hek (h2 e he)
    refine ⟨.map es clock, ?_, es, clock, (heap_set hb).1, by simp [hn, hfk], hks, hnd, ?_⟩
    · intro t2 ty
      simp [Builtin.delete_, run_underlying ht, MapKept.run_getObj_map hb, MapKept.run_checkKey hd hk, MapKept.run_findKey hd h1, MapKept.run_setObj_map _ hb, Result.andThen, setMap]
    · intro k' v'
      by_cases e : k' = k
      · subst e
        rw [upd_same]
        constructor
        · intro q; cases q
        · rintro ⟨x, hx, hxk, _⟩; exact absurd hxk (h2 x hx)
      · rw [upd_ne _ _ e]; exact hf k' v'
  · have hjl : j < es.toList.length := (List.getElem?_eq_some_iff.1 h2).1
    have hem : e ∈ es.toList := List.mem_of_getElem? h2
    have hfk : f k = some e.val := (hf k e.val).2 ⟨e, hem, h3, rfl⟩
    have herase : (es.eraseIdxIfInBounds j).toList = es.toList.eraseIdx j := by
      unfold Array.eraseIdxIfInBounds
      rw [dif_pos (by simpa using hjl)]
      simp
    have hsub : (es.toList.eraseIdx j).Sublist es.toList := List.eraseIdx_sublist _ _
    have hmem : ∀ x, x ∈ es.toList.eraseIdx j ↔ x ∈ es.toList ∧ x.key ≠ k := by
      intro x
      rw [List.mem_eraseIdx_iff_getElem?]
      constructor
      · rintro ⟨i, hij, hi⟩
        refine ⟨List.mem_of_getElem? hi, fun hxk => hij ?_⟩
        have hil : i < es.toList.length := (List.getElem?_eq_some_iff.1 hi).1
        have e1 : (es.toList.map (·.key))[i]'(by simpa using hil) = k := by
          rw [List.getElem_map]; rw [← hxk]; congr 1; exact (List.getElem?_eq_some_iff.1 hi).2
        have e2 : (es.toList.map (·.key))[j]'(by simpa using hjl) = k := by
          rw [List.getElem_map]; rw [← h3]; congr 1; exact (List.getElem?_eq_some_iff.1 h2).2
        exact (List.getElem_inj hnd).1 (e1.trans e2.symm)
      · rintro ⟨hx, hxk⟩
        obtain ⟨i, hi⟩ := List.mem_iff_getElem?.1 hx
        refine ⟨i, ?_, hi⟩
        rintro rfl
        rw [hi] at h2; cases h2
        exact hxk h3
    refine ⟨.map (es.eraseIdxIfInBounds j) clock, ?_, es.eraseIdxIfInBounds j, clock, (heap_set hb).1, ?_, ?_, ?_, ?_⟩
    · intro t2 ty
      simp [Builtin.delete_, run_underlying ht, MapKept.run_getObj_map hb, MapKept.run_checkKey hd hk, MapKept.run_findKey hd h1, MapKept.run_setObj_map _ hb, Result.andThen, setMap]
    · have : (es.eraseIdxIfInBounds j).size = (es.eraseIdxIfInBounds j).toList.length := (Array.length_toList).symm
      rw [this, herase, List.length_eraseIdx, if_pos hjl]
      simp [hn, hfk]
    · intro x hx; rw [herase] at hx; exact hks x (hsub.subset hx)
    · rw [herase]; exact (hsub.map _).nodup hnd
    · intro k' v'
      rw [herase]
      by_cases e' : k' = k
      · subst e'
        rw [upd_same]
        constructor
        · intro q; cases q
        · rintro ⟨x, hx, hxk, _⟩; exact absurd hxk ((hmem x).1 hx).2
      · rw [upd_ne _ _ e', hf]
        constructor
        · rintro ⟨x, hx, hxk, hxv⟩; exact ⟨x, (hmem x).2 ⟨hx, fun q => e' (hxk.symm.trans q)⟩, hxk, hxv⟩
        · rintro ⟨x, hx, hxk, hxv⟩; exact ⟨x, ((hmem x).1 hx).1, hxk, hxv⟩

theorem MapIs.len (h : MapIs d w M f n) (ht : P.underlying t = some (.map kt et)) (ty : TypeId) : (Builtin.len_ #[t] ty #[.map (some M)]).run P w = .ok (.int .i64 n) w := by
  obtain ⟨es, clock, hb, hn, _⟩ := h
  simp [Builtin.len_, run_underlying ht, MapKept.run_getObj_map hb, Result.andThen, hn, goInt]

theorem MapIs.size (h : MapIs d w M f n) : ∃ es clock, w.heap[M]? = some (.map es clock) ∧ es.size = n := by
  obtain ⟨es, clock, hb, hn, _⟩ := h; exact ⟨es, clock, hb, hn⟩

end
/-! ### two pointers, one beside the other -/
theorem cells_of_cell {w : World} {a : Addr} {v : Value} (h : w.cell? a = some v) : ∃ c t fr, w.heap[a.block]? = some (.cells c t fr) := by
  unfold World.cell? at h
  split at h
  · rename_i c t fr q; exact ⟨c, t, fr, q⟩
  · cases h

section
variable {P : Program} {w : World} {a b : Addr} {va vb : Value} {oa ob : Nat}

theorem run_sameAddr_far (hne : a.block ≠ b.block) (ha : w.cell? ⟨a.block, oa, none⟩ = some va) (hb : w.cell? ⟨b.block, ob, none⟩ = some vb)
    (fa : ∀ o, w.frozen? ⟨a.block, o, none⟩ = false) (fb : ∀ o, w.frozen? ⟨b.block, o, none⟩ = false) : (sameAddr a b).run P w = .ok false w := by
  obtain ⟨ca, ta, fra, ha'⟩ := cells_of_cell ha
  obtain ⟨cb, tb, frb, hb'⟩ := cells_of_cell hb
  have fa' : ∀ o s, w.frozen? ⟨a.block, o, s⟩ = false := fun o _ => fa o
  have fb' : ∀ o s, w.frozen? ⟨b.block, o, s⟩ = false := fun o _ => fb o
  obtain ⟨ab, ao, as⟩ := a
  obtain ⟨bb, bo, bs⟩ := b
  simp only at *
  simp [sameAddr, hne, noView, viewAt, World.shape?, ha', hb', mayBeOne, stringish, fa', fb']

variable {tp te : TypeId} {j : TypeInfo}
theorem run_neq_far (hp : P.underlying tp = some (.pointer te)) (hte : P.info? te = some j) (hsz : j.size ≠ 0) (hne : a.block ≠ b.block) (ha : w.cell? ⟨a.block, oa, none⟩ = some va) (hb : w.cell? ⟨b.block, ob, none⟩ = some vb)
    (fa : ∀ o, w.frozen? ⟨a.block, o, none⟩ = false) (fb : ∀ o, w.frozen? ⟨b.block, o, none⟩ = false) : (binOp .neq tp (.pointer (some a)) (.pointer (some b))).run P w = .ok (.bool true) w := by
  have h : ∀ d : Nat, (Op.equalIn (d + 1) tp (.pointer (some a)) (.pointer (some b))).run P w = .ok false w := fun d => by
    simp [Op.equalIn, run_underlying hp, sizeOf, typeInfo, hte, hsz, run_sameAddr_far hne ha hb fa fb]
  simp only [binOp]
  simp [Op.equal, Op.maxDepth, h 9999]

theorem run_eql_far (hp : P.underlying tp = some (.pointer te)) (hte : P.info? te = some j) (hsz : j.size ≠ 0) (hne : a.block ≠ b.block) (ha : w.cell? ⟨a.block, oa, none⟩ = some va) (hb : w.cell? ⟨b.block, ob, none⟩ = some vb)
    (fa : ∀ o, w.frozen? ⟨a.block, o, none⟩ = false) (fb : ∀ o, w.frozen? ⟨b.block, o, none⟩ = false) : (binOp .eql tp (.pointer (some a)) (.pointer (some b))).run P w = .ok (.bool false) w := by
  have h : ∀ d : Nat, (Op.equalIn (d + 1) tp (.pointer (some a)) (.pointer (some b))).run P w = .ok false w := fun d => by
    simp [Op.equalIn, run_underlying hp, sizeOf, typeInfo, hte, hsz, run_sameAddr_far hne ha hb fa fb]
  simp only [binOp]
  simp [Op.equal, Op.maxDepth, h 9999]

theorem run_neq_self (hp : P.underlying tp = some (.pointer te)) (hte : P.info? te = some j) : (binOp .neq tp (.pointer (some a)) (.pointer (some a))).run P w = .ok (.bool false) w := by
  have h : ∀ d : Nat, (Op.equalIn (d + 1) tp (.pointer (some a)) (.pointer (some a))).run P w = .ok true w := fun d => by
    simp [Op.equalIn, run_underlying hp, sizeOf, typeInfo, hte, run_sameAddr_same]
  simp only [binOp]
  simp [Op.equal, Op.maxDepth, h 9999]

/-- the element type of a pointer type, by one closed fact -/
theorem info_size {te : TypeId} {n : Nat} (h : (P.info? te).map (·.size) = some n) : ∃ j, P.info? te = some j ∧ j.size = n := by
  cases q : P.info? te with
  | none => rw [q] at h; cases h
  | some j => rw [q] at h; exact ⟨j, rfl, by simpa using h⟩
end

/-! ### at the operation -/
section
variable {P : Program} {d : TypeDesc} {M n : Nat} {f : Value → Option Value}

/-- 'm[k] = v', for the walk -/
theorem wpList_mapUpdate_is (w : World) {ops : Array Oper} {rest : List Oper} {o : Oper} {a : Act} {Q : Exit → Act → World → Prop}
    (hg : o.guard = none) (m x v : Operand) (t : TypeId) (hop : o.op = Op.mapUpdate t m x v) {kt et : TypeId} (ht : P.underlying t = some (.map kt et)) (hd : P.underlying kt = some d)
    (hm : a.eval m = .map (some M)) (h : MapIs d w M f n) (key val : Value) (hx : a.eval x = key) (hv : a.eval v = val) (hk : IsKey d key)
    (hK : ∀ ob, MapIs d (setMap w M ob) M (upd f key (some val)) (if (f key).isSome then n else n + 1) → wpList P ops Q rest (a.put o.dst undef) (setMap w M ob)) :
    wpList P ops Q (o :: rest) a w := by
  refine wpList_plain hg fun K' hK' => ?_
  obtain ⟨ob, hrun, r1⟩ := h.update (P := P) ht hd hk val
  unfold Oper.wp
  simp [execOp, hop, hm, hx, hv, hrun, Result.andThen]
  exact hK' _ _ (hK ob r1)
end

/-- four results -/
theorem results_tmp4 {fn : Func} {t u v x : Tmp} (h : fn.results = #[.tmp t, .tmp u, .tmp v, .tmp x]) (tmps : Array Value) (P : Program) (w : World) :
    (results fn tmps).run P w = .ok (.tuple #[tmps.getD t undef, tmps.getD u undef, tmps.getD v undef, tmps.getD x undef]) w := by
  simp [results, h]

/-- What is made and written by the call alone: below B all is as it was. -/
theorem Below.then_only {B : Nat} {w w1 w2 : World} {S : Nat → Prop} (hB : B ≤ w.heap.size) (h : Below B w w1) (o : Only S w1 w2) (hS : ∀ b, S b → B ≤ b) : Below B w w2 :=
  h.trans (o.below (Nat.le_trans hB h.size) hS)

/-! ### the same memory, up to draws -/
theorem cell_of_heap {w w' : World} (h : w'.heap = w.heap) (a : Addr) : w'.cell? a = w.cell? a := World.cell?_of_block (w := w) (by rw [h])
theorem frozen_of_heap {w w' : World} (h : w'.heap = w.heap) (a : Addr) : w'.frozen? a = w.frozen? a := World.frozen?_of_block (w := w) (by rw [h])

/-- The same memory, up to draws. -/
structure Like (w' w : World) : Prop where
  heap : w'.heap = w.heap
  os : w'.os = w.os
  tape : w'.tape = w.tape
  output : w'.output = w.output

theorem Like.refl (w : World) : Like w w := ⟨rfl, rfl, rfl, rfl⟩
theorem Like.only {w' w : World} (h : Like w' w) (S : Nat → Prop) : Only S w w' := ⟨h.os, h.tape, h.output, by rw [h.heap]; exact Nat.le_refl _, fun b _ _ => by rw [h.heap]⟩

end Go.Proofs.YtdgnfdheofacgaaGreat
