/- A book of package commonsbook in memory, of lists of ints alone ('BookAt', 'BookIs'): the lists, their copies, what is marked. No program. -/
import Derived.Test.YtdgnfdheofacgaaGreatWords
namespace Go.Proofs.YtdgnfdheofacgaaGreat
open Go.RowKit

/-- the marks of the i-th list: n of them, from the f-th on -/
def marks (i f n : Nat) : List Int := (List.range n).map fun k => -1000000 * (i : Int) - ((f + k : Nat) : Int) - 7

@[simp] theorem length_marks (i f n : Nat) : (marks i f n).length = n := by simp [marks]
theorem marks_zero (i f : Nat) : marks i f 0 = [] := rfl
theorem marks_succ (i f n : Nat) : marks i f (n + 1) = marks i f n ++ [-1000000 * (i : Int) - ((f + n : Nat) : Int) - 7] := by simp [marks, List.range_succ]
theorem marks_add (i f n m : Nat) : marks i f n ++ marks i (f + n) m = marks i f (n + m) := by
  induction m with
  | zero => simp [marks_zero]
  | succ m ih => rw [← Nat.add_assoc, marks_succ, marks_succ, ← ih, List.append_assoc, Nat.add_assoc]
theorem marks_take (i f n k : Nat) (h : k ≤ n) : (marks i f n).take k = marks i f k := by
  obtain ⟨m, rfl⟩ : ∃ m, n = k + m := ⟨n - k, by omega⟩
  rw [← marks_add, List.take_left' (length_marks _ _ _)]
theorem marks_get (i f n k : Nat) (h : k < n) : (marks i f n)[k]? = some (-1000000 * (i : Int) - ((f + k : Nat) : Int) - 7) := by simp [marks, h]

abbrev ints (l : List Int) : List Value := l.map (Value.int .i64)

theorem ints_one (l : List Int) : ∀ c ∈ ints l, c.oneCell' = true := by
  intro c hc
  obtain ⟨x, _, rfl⟩ := List.mem_map.1 hc
  rfl

theorem ints_get {l : List Int} {k : Nat} (h : k < l.length) : (ints l)[k]? = some (.int .i64 l[k]) := by simp [ints, h]

/-- what is kept: the list that was answered, the copy, what is in each -/
structure Kp where
  v : Value
  c : Value
  l : List Int
  m : List Int

def kblocks (B : Nat) (vi vw : Value) (Z : List Kp) : List (Option Nat) := some B :: vi.ownBlock :: vw.ownBlock :: Z.flatMap fun z => [z.v.ownBlock, z.c.ownBlock]

/-- no block twice -/
def Apt (L : List (Option Nat)) : Prop := L.Pairwise fun p q => ∀ b, p = some b → q ≠ some b

structure BookAt (E1 E2 : TypeId) (K : Nat → Prop) (w : World) (B : Nat) (vi vw : Value) (Z : List Kp) : Prop where
  ci : w.cell? ⟨B, 2, none⟩ = some vi
  cw : w.cell? ⟨B, 3, none⟩ = some vw
  rest : ∀ o, o < 30 → o ≠ 2 → o ≠ 3 → w.cell? ⟨B, o, none⟩ = some (.slice none 0 0)
  free : ∀ o, w.frozen? ⟨B, o, none⟩ = false
  ri : w.ownsRow 0 E2 1 vi Z.length (Z.map (·.v))
  rc : w.ownsRow 0 E2 1 vw Z.length (Z.map (·.c))
  own : ∀ z ∈ Z, w.ownsRow 0 E1 1 z.v z.l.length (ints z.l) ∧ w.ownsRow 0 E1 1 z.c z.m.length (ints z.m)
  apt : Apt (kblocks B vi vw Z)
  kin : ∀ p ∈ kblocks B vi vw Z, ∀ b, p = some b → K b
  klt : ∀ b, K b → b < w.heap.size

section
variable {E1 E2 : TypeId} {K : Nat → Prop} {w : World} {B : Nat} {vi vw : Value} {Z : List Kp}

theorem BookAt.kept {S : Nat → Prop} {w' : World} (h : BookAt E1 E2 K w B vi vw Z) (hk : Only S w w') (hs : ∀ b, K b → ¬ S b) : BookAt E1 E2 K w' B vi vw Z := by
  have kB : K B := h.kin (some B) (by simp [kblocks]) B rfl
  have kI : ∀ b, vi.ownBlock = some b → K b := fun b q => h.kin _ (by simp [kblocks]) b q
  have kW : ∀ b, vw.ownBlock = some b → K b := fun b q => h.kin _ (by simp [kblocks]) b q
  have e : ∀ o, w'.cell? ⟨B, o, none⟩ = w.cell? ⟨B, o, none⟩ := fun o => hk.cell (p := ⟨B, o, none⟩) (h.klt B kB) (hs B kB)
  have hz : ∀ z ∈ Z, (∀ b, z.v.ownBlock = some b → K b) ∧ (∀ b, z.c.ownBlock = some b → K b) := fun z hz =>
    ⟨fun b q => h.kin _ (by simp only [kblocks, List.mem_cons, List.mem_flatMap]; exact .inr (.inr (.inr ⟨z, hz, by simp⟩))) b q,
     fun b q => h.kin _ (by simp only [kblocks, List.mem_cons, List.mem_flatMap]; exact .inr (.inr (.inr ⟨z, hz, by simp⟩))) b q⟩
  exact ⟨(e 2).trans h.ci, (e 3).trans h.cw, fun o h1 h2 h3 => (e o).trans (h.rest o h1 h2 h3), fun o => (hk.frozen (p := ⟨B, o, none⟩) (h.klt B kB) (hs B kB)).trans (h.free o),
    ownsRow_only h.ri hk (fun b q => hs b (kI b q)), ownsRow_only h.rc hk (fun b q => hs b (kW b q)),
    fun z q => ⟨ownsRow_only (h.own z q).1 hk (fun b r => hs b ((hz z q).1 b r)), ownsRow_only (h.own z q).2 hk (fun b r => hs b ((hz z q).2 b r))⟩,
    h.apt, h.kin, fun b q => Nat.lt_of_lt_of_le (h.klt b q) hk.size⟩

theorem BookAt.like {w' : World} (h : BookAt E1 E2 K w B vi vw Z) (hk : Like w' w) : BookAt E1 E2 K w' B vi vw Z := h.kept (hk.only (fun _ => False)) (fun _ _ q => q)

theorem BookAt.kB (h : BookAt E1 E2 K w B vi vw Z) : K B := h.kin (some B) (by simp [kblocks]) B rfl
theorem BookAt.kI (h : BookAt E1 E2 K w B vi vw Z) : ∀ b, vi.ownBlock = some b → K b := fun b q => h.kin _ (by simp [kblocks]) b q
theorem BookAt.kW (h : BookAt E1 E2 K w B vi vw Z) : ∀ b, vw.ownBlock = some b → K b := fun b q => h.kin _ (by simp [kblocks]) b q
theorem BookAt.kV (h : BookAt E1 E2 K w B vi vw Z) {z : Kp} (hz : z ∈ Z) : ∀ b, z.v.ownBlock = some b → K b := fun b q =>
  h.kin _ (by simp only [kblocks, List.mem_cons, List.mem_flatMap]; exact .inr (.inr (.inr ⟨z, hz, by simp⟩))) b q
theorem BookAt.kC (h : BookAt E1 E2 K w B vi vw Z) {z : Kp} (hz : z ∈ Z) : ∀ b, z.c.ownBlock = some b → K b := fun b q =>
  h.kin _ (by simp only [kblocks, List.mem_cons, List.mem_flatMap]; exact .inr (.inr (.inr ⟨z, hz, by simp⟩))) b q

theorem Apt.head {p : Option Nat} {L : List (Option Nat)} (h : Apt (p :: L)) {q : Option Nat} (hq : q ∈ L) {b : Nat} (e : p = some b) : q ≠ some b := (List.pairwise_cons.1 h).1 q hq b e

/-- The Book's own block is none of the others. -/
theorem BookAt.neB (h : BookAt E1 E2 K w B vi vw Z) {p : Option Nat} (hp : p ∈ vi.ownBlock :: vw.ownBlock :: Z.flatMap fun z => [z.v.ownBlock, z.c.ownBlock]) : p ≠ some B := Apt.head h.apt hp rfl

theorem BookAt.neI (h : BookAt E1 E2 K w B vi vw Z) {p : Option Nat} (hp : p ∈ vw.ownBlock :: Z.flatMap fun z => [z.v.ownBlock, z.c.ownBlock]) {b : Nat} (e : vi.ownBlock = some b) : p ≠ some b :=
  Apt.head (List.pairwise_cons.1 h.apt).2 hp e

/-- The list of a book is put: the row of lists, and the copy's. -/
theorem BookAt.add {K' : Nat → Prop} {w1 : World} {vi' vw' v c : Value} {l : List Int} (h : BookAt E1 E2 K w B vi vw Z)
    (c2 : w1.cell? ⟨B, 2, none⟩ = some vi') (c3 : w1.cell? ⟨B, 3, none⟩ = some vw') (cr : ∀ o, o ≠ 2 → o ≠ 3 → w1.cell? ⟨B, o, none⟩ = w.cell? ⟨B, o, none⟩) (cf : ∀ o, w1.frozen? ⟨B, o, none⟩ = w.frozen? ⟨B, o, none⟩)
    (ri : w1.ownsRow 0 E2 1 vi' (Z.length + 1) (Z.map (·.v) ++ [v])) (rc : w1.ownsRow 0 E2 1 vw' (Z.length + 1) (Z.map (·.c) ++ [c]))
    (ho : ∀ z ∈ Z, w1.ownsRow 0 E1 1 z.v z.l.length (ints z.l) ∧ w1.ownsRow 0 E1 1 z.c z.m.length (ints z.m))
    (hv : w1.ownsRow 0 E1 1 v l.length (ints l)) (hc : w1.ownsRow 0 E1 1 c l.length (ints l))
    {N : Nat} (hN : ∀ b, K b → b < N)
    (bi : ∀ b, vi'.ownBlock = some b → vi.ownBlock = some b ∨ (N ≤ b ∧ v.ownBlock ≠ some b)) (bw : ∀ b, vw'.ownBlock = some b → vw.ownBlock = some b ∨ (N ≤ b ∧ v.ownBlock ≠ some b ∧ vi'.ownBlock ≠ some b))
    (bv : ∀ b, v.ownBlock = some b → ¬ K b) (bc : ∀ b, c.ownBlock = some b → N ≤ b ∧ v.ownBlock ≠ some b ∧ vi'.ownBlock ≠ some b ∧ vw'.ownBlock ≠ some b)
    (hK : ∀ p ∈ kblocks B vi' vw' (Z ++ [⟨v, c, l, l⟩]), ∀ b, p = some b → K' b) (hlt : ∀ b, K' b → b < w1.heap.size) : BookAt E1 E2 K' w1 B vi' vw' (Z ++ [⟨v, c, l, l⟩]) := by
  refine ⟨c2, c3, fun o h1 h2 h3 => (cr o h2 h3).trans (h.rest o h1 h2 h3), fun o => (cf o).trans (h.free o), by simpa using ri, by simpa using rc, ?_, ?_, hK, hlt⟩
  · intro z hz
    rcases List.mem_append.1 hz with hz | hz
    · exact ho z hz
    · simp only [List.mem_singleton] at hz
      subst hz
      exact ⟨hv, hc⟩
  · have ha := h.apt
    unfold Apt kblocks at *
    simp only [List.flatMap_append, List.flatMap_cons, List.flatMap_nil, List.append_nil, List.pairwise_cons, List.mem_cons, List.mem_append, List.pairwise_append, List.not_mem_nil, or_false, forall_eq_or_imp, forall_eq] at ha ⊢
    obtain ⟨⟨a1, a2, a3⟩, ⟨a4, a5⟩, a6, a7⟩ := ha
    have kB := h.kB
    have kI := h.kI
    have kW := h.kW
    have kF : ∀ q, q ∈ Z.flatMap (fun z => [z.v.ownBlock, z.c.ownBlock]) → ∀ b, q = some b → K b := fun q hq b e =>
      h.kin q (by simp only [kblocks, List.mem_cons]; exact .inr (.inr (.inr hq))) b e
    have big : ∀ {b : Nat}, K b → ¬ N ≤ b := fun hb q => by have := hN _ hb; omega
    have nI : ∀ q, q ∈ Z.flatMap (fun z => [z.v.ownBlock, z.c.ownBlock]) → ∀ b, vi'.ownBlock = some b → q ≠ some b := fun q hq b e e2 => by
      rcases bi b e with r | ⟨r, _⟩
      · exact a5 q hq b r e2
      · exact big (kF q hq b e2) r
    have nW : ∀ q, q ∈ Z.flatMap (fun z => [z.v.ownBlock, z.c.ownBlock]) → ∀ b, vw'.ownBlock = some b → q ≠ some b := fun q hq b e e2 => by
      rcases bw b e with r | ⟨r, _⟩
      · exact a6 q hq b r e2
      · exact big (kF q hq b e2) r
    refine ⟨⟨?_, ?_, ?_⟩, ⟨?_, ?_⟩, ?_, a7, ?_, ?_⟩
    · intro b e e2
      cases e
      rcases bi B e2 with r | ⟨r, _⟩
      · exact a1 B rfl r
      · exact big kB r
    · intro b e e2
      cases e
      rcases bw B e2 with r | ⟨r, _⟩
      · exact a2 B rfl r
      · exact big kB r
    · rintro q (hq | rfl | rfl) b e e2
      · exact a3 q hq b e e2
      · cases e; exact bv B e2 kB
      · cases e; exact big kB (bc B e2).1
    · intro b e e2
      rcases bw b e2 with r | ⟨_, _, r⟩
      · rcases bi b e with s | ⟨s, _⟩
        · exact a4 b s r
        · exact big (kW b r) s
      · exact r e
    · rintro q (hq | rfl | rfl) b e e2
      · exact nI q hq b e e2
      · rcases bi b e with s | ⟨_, s⟩
        · exact bv b e2 (kI b s)
        · exact s e2
      · exact (bc b e2).2.2.1 e
    · rintro q (hq | rfl | rfl) b e e2
      · exact nW q hq b e e2
      · rcases bw b e with s | ⟨_, s, _⟩
        · exact bv b e2 (kW b s)
        · exact s e2
      · exact (bc b e2).2.2.2 e
    · refine ⟨fun b e e2 => (bc b e2).2.1 e, by simp⟩
    · intro q hq
      refine ⟨fun b e e2 => bv b e2 (kF q hq b e), fun b e e2 => big (kF q hq b e) (bc b e2).1⟩

/-- An element of a kept list is written. -/
theorem BookAt.put (h : BookAt E1 E2 K w B vi vw Z) {i : Nat} {z : Kp} (hi : Z[i]? = some z) {g cap j : Nat} (hv : z.v = .slice (some ⟨g, 0, none⟩) z.l.length cap) (hj : j < z.l.length) (u : Int) :
    BookAt E1 E2 K (w.setCell ⟨g, j, none⟩ (.int .i64 u)) B vi vw (Z.set i { z with l := z.l.set j u }) ∧ Only K w (w.setCell ⟨g, j, none⟩ (.int .i64 u)) := by
  have hz : z ∈ Z := List.mem_of_getElem? hi
  have hil : i < Z.length := (List.getElem?_eq_some_iff.1 hi).1
  have hzb : z.v.ownBlock = some g := by rw [hv]; rfl
  have ha := h.apt
  have ho : Only (fun b => b = g) w (w.setCell ⟨g, j, none⟩ (.int .i64 u)) := Only.setCell (S := fun b => b = g) w (a := ⟨g, j, none⟩) rfl _
  have hgB : B ≠ g := fun e => h.neB (p := z.v.ownBlock) (by simp only [List.mem_cons, List.mem_flatMap]; exact .inr (.inr ⟨z, hz, by simp⟩)) (by rw [hzb, e])
  have em : ∀ f : Kp → Value, f { z with l := z.l.set j u } = f z → (Z.set i { z with l := z.l.set j u }).map f = Z.map f := fun f hf => by
    rw [List.map_set, hf]
    apply List.ext_getElem?
    intro k
    rw [List.getElem?_set]
    split
    · rename_i e; subst e; simp [hil, (List.getElem?_eq_some_iff.1 hi).2]
    · rfl
  have eb : kblocks B vi vw (Z.set i { z with l := z.l.set j u }) = kblocks B vi vw Z := by
    have : ∀ Z' : List Kp, (Z'.flatMap fun z => [z.v.ownBlock, z.c.ownBlock]) = ((Z'.map (·.v)).zip (Z'.map (·.c))).flatMap fun z => [z.1.ownBlock, z.2.ownBlock] := fun Z' => by
      induction Z' with
      | nil => rfl
      | cons a r ih => simp [ih]
    unfold kblocks
    rw [this, this, em (·.v) rfl, em (·.c) rfl]
  have e : ∀ o, (w.setCell ⟨g, j, none⟩ (.int .i64 u)).cell? ⟨B, o, none⟩ = w.cell? ⟨B, o, none⟩ := fun o => cell_set_ne _ (fun q => hgB (congrArg Addr.block q))
  have hx : ∀ z' ∈ Z, z' ≠ z → (z'.v.ownBlock ≠ some g) := by
    intro z' hz' hne e2
    obtain ⟨A, C, rfl⟩ := List.append_of_mem hz
    unfold Apt kblocks at ha
    simp only [List.flatMap_append, List.flatMap_cons, List.pairwise_cons, List.pairwise_append, List.mem_cons, List.mem_append, List.mem_flatMap] at ha
    obtain ⟨_, _, _, a1, a2, a3⟩ := ha
    rcases List.mem_append.1 hz' with q | q
    · exact a3 z'.v.ownBlock ⟨z', q, by simp⟩ z.v.ownBlock (.inl (by simp)) g e2 hzb
    · rcases List.mem_cons.1 q with q | q
      · exact hne q
      · exact a2.2.2 z.v.ownBlock (by simp) z'.v.ownBlock ⟨z', q, by simp⟩ g hzb e2
  have hc : ∀ z' ∈ Z, z'.c.ownBlock ≠ some g := by
    intro z' hz' e2
    obtain ⟨A, C, rfl⟩ := List.append_of_mem hz
    unfold Apt kblocks at ha
    simp only [List.flatMap_append, List.flatMap_cons, List.pairwise_cons, List.pairwise_append, List.mem_cons, List.mem_append, List.mem_flatMap] at ha
    obtain ⟨_, _, _, a1, a2, a3⟩ := ha
    rcases List.mem_append.1 hz' with q | q
    · exact a3 z'.c.ownBlock ⟨z', q, by simp⟩ z.v.ownBlock (.inl (by simp)) g e2 hzb
    · rcases List.mem_cons.1 q with q | q
      · subst q
        exact a2.1.1 _ (by simp) g hzb e2
      · exact a2.2.2 z.v.ownBlock (by simp) z'.c.ownBlock ⟨z', q, by simp⟩ g hzb e2
  have hnI : ∀ b, vi.ownBlock = some b → b ≠ g := fun b e1 e2 => h.neI (p := z.v.ownBlock) (by simp only [List.mem_cons, List.mem_flatMap]; exact .inr ⟨z, hz, by simp⟩) e1 (by rw [hzb, e2])
  have hnW : ∀ b, vw.ownBlock = some b → b ≠ g := fun b e1 e2 =>
    Apt.head (List.pairwise_cons.1 (List.pairwise_cons.1 ha).2).2 (q := z.v.ownBlock) (by simp only [List.mem_flatMap]; exact ⟨z, hz, by simp⟩) e1 (by rw [hzb, e2])
  refine ⟨⟨(e 2).trans h.ci, (e 3).trans h.cw, fun o h1 h2 h3 => (e o).trans (h.rest o h1 h2 h3), fun o => (World.frozen?_setCell ..).trans (h.free o), ?_, ?_, ?_, by rw [eb]; exact ha, by rw [eb]; exact h.kin, fun b q => by simpa using h.klt b q⟩, ho.mono fun b _ q => q ▸ h.kV hz g hzb⟩
  · rw [List.length_set, em (·.v) rfl]; exact ownsRow_only h.ri ho hnI
  · rw [List.length_set, em (·.c) rfl]; exact ownsRow_only h.rc ho hnW
  · intro z' hz'
    obtain ⟨k, hk⟩ := List.mem_iff_getElem?.1 hz'
    rw [List.getElem?_set] at hk
    split at hk
    · rename_i e1
      simp only [Option.some.injEq] at hk
      subst hk
      have hown := (h.own z hz).1
      rw [hv] at hown
      obtain ⟨r1, _⟩ := hown.stored j (.int .i64 u)
      refine ⟨?_, ownsRow_only (h.own z hz).2 ho (fun b q r => hc z hz (by rw [q, r]))⟩
      rw [hv, List.length_set]
      have : ints (z.l.set j u) = (ints z.l).set j (.int .i64 u) := by simp [ints, List.map_set]
      rw [this]; exact r1
    · have hz2 := List.mem_of_getElem? hk
      by_cases e2 : z' = z
      · subst e2
        -- the same item twice: its block would stand twice
        exfalso
        rename_i e1
        have hkl : k < Z.length := (List.getElem?_eq_some_iff.1 hk).1
        have hp := List.pairwise_iff_getElem.1 (show ((Z.map fun z => z.v.ownBlock)).Pairwise (fun p q => ∀ b, p = some b → q ≠ some b) from ?_)
        · rcases Nat.lt_or_ge i k with hlt | hge
          · refine hp i k (by simpa using hil) (by simpa using hkl) hlt g ?_ ?_
            · rw [List.getElem_map, (List.getElem?_eq_some_iff.1 hi).2]; exact hzb
            · rw [List.getElem_map, (List.getElem?_eq_some_iff.1 hk).2]; exact hzb
          · refine hp k i (by simpa using hkl) (by simpa using hil) (by omega) g ?_ ?_
            · rw [List.getElem_map, (List.getElem?_eq_some_iff.1 hk).2]; exact hzb
            · rw [List.getElem_map, (List.getElem?_eq_some_iff.1 hi).2]; exact hzb
        · have h4 := (List.pairwise_cons.1 (List.pairwise_cons.1 (List.pairwise_cons.1 ha).2).2).2
          clear hi hz hil hv hj hzb ha ho hgB em eb e hx hc hnI hnW hz' hk hz2 hkl h
          induction Z with
          | nil => exact List.Pairwise.nil
          | cons a r ih =>
            simp only [List.flatMap_cons, List.cons_append, List.nil_append, List.pairwise_cons] at h4
            rw [List.map_cons, List.pairwise_cons]
            refine ⟨fun q hq => ?_, ih h4.2.2⟩
            obtain ⟨z, hz, rfl⟩ := List.mem_map.1 hq
            exact h4.1 _ (by simp only [List.mem_cons, List.mem_flatMap]; exact .inr ⟨z, hz, by simp⟩)
      · exact ⟨ownsRow_only (h.own z' hz2).1 ho (fun b q r => hx z' hz2 e2 (by rw [q, r])), ownsRow_only (h.own z' hz2).2 ho (fun b q r => hc z' hz2 (by rw [q, r]))⟩

end
end Go.Proofs.YtdgnfdheofacgaaGreat
