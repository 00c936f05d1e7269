/- commonsbook.Book at ints: a list is kept (Ints). -/
import Derived.Test.YtdgnfdheofacgaaGreatBookI
import Derived.Deep.RegionHeld3
import Derived.Deep.RegionLaw
import Derived.Deep.DrawnRows
namespace Go.Proofs.YtdgnfdheofacgaaGreat
open Go.RowKit
namespace BK

abbrev At (K : Nat → Prop) (w : World) (B : Nat) (vi vw : Value) (Z : List Kp) : Prop := BookAt 3 65 K w B vi vw Z

/-- A book in which these lists are kept, each as it was. -/
def Is (K : Nat → Prop) (w : World) (B : Nat) (L : List (List Int)) : Prop := ∃ vi vw Z, At K w B vi vw Z ∧ Z.map (·.l) = L ∧ Z.map (·.m) = L

theorem Is.kept {K S : Nat → Prop} {w w' : World} {B : Nat} {L : List (List Int)} (h : Is K w B L) (hk : Only S w w') (hs : ∀ b, K b → ¬ S b) : Is K w' B L := by
  obtain ⟨vi, vw, Z, h, r⟩ := h
  exact ⟨vi, vw, Z, h.kept hk hs, r⟩
theorem Is.like {K : Nat → Prop} {w w' : World} {B : Nat} {L : List (List Int)} (h : Is K w B L) (hk : Like w' w) : Is K w' B L := h.kept (hk.only (fun _ => False)) (fun _ _ q => q)
theorem Is.klt {K : Nat → Prop} {w : World} {B : Nat} {L : List (List Int)} (h : Is K w B L) : ∀ b, K b → b < w.heap.size := by
  obtain ⟨vi, vw, Z, h, r⟩ := h
  exact h.klt

theorem one_slice {v : Value} {w : World} {base : Nat} {e : TypeId} {size n : Nat} {xs : List Value} (h : w.ownsRow base e size v n xs) : v.oneCell' = true := by
  obtain ⟨a, cap, rfl⟩ := own_shape h
  rfl

/-- What a kept list leaves. -/
theorem ints_end {K : Nat → Prop} {w w2 w3 w4 w5 : World} {B : Nat} {Z : List Kp} {vi vw v v1 v4 u x3 : Value} {l : List Int} {ob : Obj} (hBK : At K w B vi vw Z) (hm : Z.map (·.m) = Z.map (·.l)) (hv : w.ownsRow 0 3 1 v l.length (ints l)) (bv : ∀ b, v.ownBlock = some b → ¬ K b)
    (o2 : Only (fun b => v1.ownBlock = some b ∨ b = B) w w2) (hat2 : ∀ b, v1.ownBlock = some b → vi.ownBlock = some b ∨ w.heap.size < b) (hfo : ∀ o, w2.frozen? ⟨B, o, none⟩ = w.frozen? ⟨B, o, none⟩) (hco : ∀ o, o ≠ 2 → w2.cell? ⟨B, o, none⟩ = w.cell? ⟨B, o, none⟩)
    (c2 : w2.cell? ⟨B, 2, none⟩ = some v1) (ri2 : w2.ownsRow 0 65 1 v1 (Z.length + 1) (Z.map (·.v) ++ [v])) (hv2 : w2.ownsRow 0 3 1 v l.length (ints l))
    (o3 : Only (fun _ => False) w2 w3) (hu : w3.ownsRow w2.heap.size 3 1 u l.length (ints l)) (ho4 : Only (fun b => v4.ownBlock = some b) (w3.alloc ob) w4) (hown4 : w4.ownsRow 0 65 1 v4 (Z.length + 1) (Z.map (·.c) ++ [u]))
    (hat4 : ∀ b, v4.ownBlock = some b → vw.ownBlock = some b ∨ (w3.alloc ob).heap.size ≤ b) (hne4 : v4.ownBlock ≠ some B) (c4 : w4.cell? ⟨B, 3, none⟩ = some x3) (hw : Like w5 (w4.setCell ⟨B, 3, none⟩ v4)) :
    ∃ K', Is K' w5 B (Z.map (·.l) ++ [l]) ∧ Only K w w5 ∧ ∀ b, K' b → K b ∨ v.ownBlock = some b ∨ w.heap.size ≤ b := by
  have hs2 := o2.size
  have hs3 := o3.size
  have hs4 := ho4.size
  simp only [World.size_alloc] at hs4
  have hBlt := hBK.klt B hBK.kB
  have klt := hBK.klt
  have o4 : Only (fun b => v4.ownBlock = some b) w2 w4 := ((o3.mono fun _ _ q => q.elim).trans (Only.alloc _ w3 ob)).trans ho4
  have o5 : Only (fun b => v4.ownBlock = some b ∨ b = B) w2 w5 := ((o4.mono fun b _ q => .inl q).trans (Only.setCell _ (.inr rfl) _)).trans (hw.only _)
  have hlt4 : ∀ b, v4.ownBlock = some b → b < w4.heap.size := fun b q => (hown4.lt b q).2
  have hlt1 : ∀ b, v1.ownBlock = some b → b < w2.heap.size := fun b q => (ri2.lt b q).2
  have hltv : ∀ b, v.ownBlock = some b → b < w.heap.size := fun b q => (hv.lt b q).2
  have hltu : ∀ b, u.ownBlock = some b → w2.heap.size ≤ b ∧ b < w3.heap.size := fun b q => hu.lt b q
  have h4' : ∀ b, v4.ownBlock = some b → vw.ownBlock = some b ∨ w3.heap.size < b := fun b q => (hat4 b q).elim .inl (fun q => .inr (by simp at q; omega))
  have n14 : ∀ b, v1.ownBlock = some b → v4.ownBlock ≠ some b := fun b q r => by
    have h1 := hlt1 b q
    rcases h4' b r with s | s
    · rcases hat2 b q with t | t
      · exact hBK.neI (p := vw.ownBlock) (by simp) t s
      · have := klt b (hBK.kW b s); omega
    · omega
  have nv4 : ∀ b, v.ownBlock = some b → v4.ownBlock ≠ some b := fun b q r => by
    have h1 := hltv b q
    rcases h4' b r with s | s
    · exact bv b q (hBK.kW b s)
    · omega
  have nu4 : ∀ b, u.ownBlock = some b → v4.ownBlock ≠ some b := fun b q r => by
    have h1 := hltu b q
    rcases h4' b r with s | s
    · have := klt b (hBK.kW b s); omega
    · omega
  have hb5 : ∀ b, b ≠ B → w5.heap[b]? = w4.heap[b]? := fun b e => by rw [hw.heap, RowKit.Below.heap_setCell _ _ _ _ e]
  have ob5 : Only (fun b => b = B) w4 w5 := (Only.setCell w4 (S := fun b => b = B) (a := ⟨B, 3, none⟩) rfl v4).trans (hw.only _)
  have nB1 : v1.ownBlock ≠ some B := fun q => (hat2 B q).elim (fun q => hBK.neB (p := vi.ownBlock) (by simp) q) (fun q => by omega)
  have e5 : ∀ o, o ≠ 3 → w5.cell? ⟨B, o, none⟩ = w2.cell? ⟨B, o, none⟩ := fun o ho => by
    rw [cell_of_heap hw.heap, cell_set_ne _ (by simp [*])]
    exact o4.cell (p := ⟨B, o, none⟩) (by show B < w2.heap.size; omega) hne4
  have f5 : ∀ o, w5.frozen? ⟨B, o, none⟩ = w.frozen? ⟨B, o, none⟩ := fun o => by
    rw [frozen_of_heap hw.heap, World.frozen?_setCell]
    exact (o4.frozen (p := ⟨B, o, none⟩) (by show B < w2.heap.size; omega) hne4).trans (hfo o)
  have nZ : ∀ p ∈ (Z.flatMap fun z => [z.v.ownBlock, z.c.ownBlock]), ∀ b, p = some b → ¬ (v4.ownBlock = some b ∨ b = B) ∧ ¬ (v1.ownBlock = some b ∨ b = B) := fun p hp b e => by
    have hk := hBK.kin p (by simp only [kblocks, List.mem_cons]; exact .inr (.inr (.inr hp))) b e
    have hlt := klt b hk
    have hnB : b ≠ B := fun q => hBK.neB (p := p) (by simp only [List.mem_cons]; exact .inr (.inr hp)) (e.trans (congrArg some q))
    have hni : vi.ownBlock ≠ some b := fun q => hBK.neI (p := p) (by simp only [List.mem_cons]; exact .inr hp) q e
    have hnw : vw.ownBlock ≠ some b := fun q => Apt.head (List.pairwise_cons.1 (List.pairwise_cons.1 hBK.apt).2).2 (q := p) hp q e
    refine ⟨fun q => q.elim (fun q => (h4' b q).elim hnw (fun r => by omega)) hnB, fun q => q.elim (fun q => (hat2 b q).elim hni (fun r => by omega)) hnB⟩
  refine ⟨fun b => K b ∨ v.ownBlock = some b ∨ v1.ownBlock = some b ∨ v4.ownBlock = some b ∨ u.ownBlock = some b, ⟨v1, v4, Z ++ [⟨v, u, l, l⟩], ?_, by simp, by simp [hm]⟩, ?_, ?_⟩
  · refine hBK.add (w1 := w5) (vi' := v1) (vw' := v4) ((e5 2 (by omega)).trans c2) ?_ (fun o h1 h2 => (e5 o h2).trans (hco o h1)) f5 ?_ ?_ ?_ ?_ ?_ (N := w.heap.size) klt ?_ ?_ bv ?_ ?_ ?_
    · rw [cell_of_heap hw.heap]
      exact World.cell?_setCell_same _ _ _ c4
    · exact ownsRow_only ri2 o5 (fun b q r => r.elim (n14 b q) (fun e => nB1 (e ▸ q)))
    · exact ownsRow_only hown4 ob5 (fun b q e => hne4 (e ▸ q))
    · intro z hz
      refine ⟨ownsRow_only (ownsRow_only (hBK.own z hz).1 o2 (fun b q => ?_)) o5 (fun b q => ?_), ownsRow_only (ownsRow_only (hBK.own z hz).2 o2 (fun b q => ?_)) o5 (fun b q => ?_)⟩
      · exact (nZ z.v.ownBlock (by simp only [List.mem_flatMap]; exact ⟨z, hz, by simp⟩) b q).2
      · exact (nZ z.v.ownBlock (by simp only [List.mem_flatMap]; exact ⟨z, hz, by simp⟩) b q).1
      · exact (nZ z.c.ownBlock (by simp only [List.mem_flatMap]; exact ⟨z, hz, by simp⟩) b q).2
      · exact (nZ z.c.ownBlock (by simp only [List.mem_flatMap]; exact ⟨z, hz, by simp⟩) b q).1
    · exact ownsRow_only hv2 o5 (fun b q r => r.elim (nv4 b q) (fun e => bv b q (e ▸ hBK.kB)))
    · refine ownsRow_only (ownsRow_only (row_lower (World.ownsRow.alloc hu ob) (Nat.zero_le _)) ho4 (fun b q => nu4 b q)) ob5 (fun b q e => ?_)
      have := (hltu b q).1
      omega
    · intro b q
      rcases hat2 b q with r | r
      · exact .inl r
      · exact .inr ⟨by omega, fun s => by have := hltv b s; omega⟩
    · intro b q
      rcases h4' b q with r | r
      · exact .inl r
      · exact .inr ⟨by omega, fun s => by have := hltv b s; omega, fun s => by have := hlt1 b s; omega⟩
    · intro b q
      have h1 := hltu b q
      exact ⟨by omega, fun s => by have := hltv b s; omega, fun s => by have := hlt1 b s; omega, nu4 b q⟩
    · intro p hp b e
      simp only [kblocks, List.flatMap_append, List.flatMap_cons, List.flatMap_nil, List.append_nil, List.mem_cons, List.mem_append, List.not_mem_nil, or_false] at hp
      rcases hp with rfl | rfl | rfl | hp | rfl | rfl
      · cases e; exact .inl hBK.kB
      · exact .inr (.inr (.inl e))
      · exact .inr (.inr (.inr (.inl e)))
      · exact .inl (hBK.kin p (by simp only [kblocks, List.mem_cons]; exact .inr (.inr (.inr hp))) b e)
      · exact .inr (.inl e)
      · exact .inr (.inr (.inr (.inr e)))
    · have h5 := o5.size
      have h45 : w4.heap.size ≤ w5.heap.size := ob5.size
      rintro b (q | q | q | q | q)
      · have := klt b q; omega
      · have := hltv b q; omega
      · have := hlt1 b q; omega
      · have := hlt4 b q; omega
      · have := hltu b q; omega
  · refine Only.then (S := K) (o2.mono fun b hb q => ?_) o5 fun b q => ?_
    · rcases q with q | rfl
      · rcases hat2 b q with r | r
        · exact hBK.kI b r
        · omega
      · exact hBK.kB
    · rcases q with q | rfl
      · rcases h4' b q with r | r
        · exact .inl (hBK.kW b r)
        · exact .inr (by omega)
      · exact .inl hBK.kB
  · have h5 := o5.size
    rintro b (q | q | q | q | q)
    · exact .inl q
    · exact .inr (.inl q)
    · rcases hat2 b q with r | r
      · exact .inl (hBK.kI b r)
      · exact .inr (.inr (by omega))
    · rcases h4' b q with r | r
      · exact .inl (hBK.kW b r)
      · exact .inr (.inr (by omega))
    · have := hltu b q
      exact .inr (.inr (by omega))

attribute [local go_sem ↓] Go.wp_at_zero Go.wp_at_succ

set_option maxRecDepth 100000 in
set_option maxHeartbeats 1000000 in
theorem ints_any {K : Nat → Prop} {w : World} {B : Nat} {L : List (List Int)} {v : Value} {l : List Int} (h : Is K w B L) (hL : L.length < 250) (hv : w.ownsRow 0 3 1 v l.length (ints l)) (hl : l.length ≤ 1000000) (bv : ∀ b, v.ownBlock = some b → ¬ K b) :
    Calls Tryz.prog 18 #[.pointer (some ⟨B, 0, none⟩), v] w fun e w' => e = .returned (.tuple #[]) ∧ ∃ K', Is K' w' B (L ++ [l]) ∧ Only K w w' ∧ ∀ b, K' b → K b ∨ v.ownBlock = some b ∨ w.heap.size ≤ b := by
  obtain ⟨vi, vw, Z, h, rfl, hm⟩ := h
  obtain ⟨a, cap, rfl⟩ := own_shape h.ri
  obtain ⟨a2, cap2, rfl⟩ := own_shape h.rc
  obtain ⟨a3, cap3, rfl⟩ := own_shape hv
  rw [List.length_map] at hL
  have hlen : (Z.length : Int) < 250 := by omega
  have hci := h.ci
  have hfr := h.free 2
  have hBlt := h.klt B h.kB
  have hBK := h
  have hri := h.ri
  have hvi := h.kI
  have hnB := h.neB (p := (Value.slice a Z.length cap).ownBlock) (by simp)
  clear h
  go_enter Tryz.func18, Tryz.ntmps18
  go_wp2_with (at_builtin; refine wpList_append_has rfl _ _ _ rfl und2 inf2 rfl (by decide) rfl rfl (hri.alloc _) (Has.one w _ _) (by intro c hc; simp at hc; subst hc; rfl) (by omega) (by omega) (Nat.zero_le _) ?_; intro v1 w1 hown1 ho1 hat1; obtain ⟨a1, cap1, rfl⟩ := own_shape hown1; have hne1 : (Value.slice a1 (Z.length + 1) cap1).ownBlock ≠ some B := (fun q => (hat1 B q).elim (fun q => hnB q) (fun q => absurd hBlt (by simp at q; omega))); have hc1 := (ho1.cell (p := ⟨B, 2, none⟩) (by simp; omega) hne1).trans (cell_alloc _ hci); have hf1 := (ho1.frozen (p := ⟨B, 2, none⟩) (by simp; omega) hne1).trans ((World.frozen?_alloc_past _ _ _ hBlt).trans hfr))
  have hlocv : ∀ b, (Value.slice a3 l.length cap3).ownBlock = some b → b < w.heap.size := fun b q => (hv.lt b q).2
  have hat2 : ∀ b, (Value.slice a1 (Z.length + 1) cap1).ownBlock = some b → (Value.slice a Z.length cap).ownBlock = some b ∨ w.heap.size < b := fun b q => (hat1 b q).elim .inl (fun q => .inr (by simp at q; omega))
  have o1 : Only (fun b => (Value.slice a1 (Z.length + 1) cap1).ownBlock = some b) w w1 := (Only.alloc _ w _).trans ho1
  have o2 : Only (fun b => (Value.slice a1 (Z.length + 1) cap1).ownBlock = some b ∨ b = B) w (w1.setCell ⟨B, 2, none⟩ (.slice a1 (Z.length + 1) cap1)) := (o1.mono fun b _ q => .inl q).trans (Only.setCell _ (.inr rfl) _)
  have hn2 : ∀ b, K b → (Value.slice a Z.length cap).ownBlock ≠ some b → b ≠ B → ¬ ((Value.slice a1 (Z.length + 1) cap1).ownBlock = some b ∨ b = B) := fun b hk h1 h2 q => q.elim (fun q => (hat2 b q).elim h1 (fun r => absurd (hBK.klt b hk) (by omega))) h2
  have rc2 := ownsRow_only hBK.rc o2 (fun b q => hn2 b (hBK.kW b q) (fun r => hBK.neI (p := (Value.slice a2 Z.length cap2).ownBlock) (by simp) r q) (fun r => hBK.neB (p := (Value.slice a2 Z.length cap2).ownBlock) (by simp) (r ▸ q)))
  have ri2 := ownsRow_only hown1 (Only.setCell (S := fun b => b = B) w1 (a := ⟨B, 2, none⟩) rfl (.slice a1 (Z.length + 1) cap1)) (fun b q e => hne1 (e ▸ q))
  have hv2 := ownsRow_only hv o2 (fun b q r => r.elim (fun r => (hat2 b r).elim (fun r => bv b q (hvi b r)) (fun r => absurd (hlocv b q) (by omega))) (fun r => bv b q (r ▸ hBK.kB)))
  have c3 : (w1.setCell ⟨B, 2, none⟩ (.slice a1 (Z.length + 1) cap1)).cell? ⟨B, 3, none⟩ = some (.slice a2 Z.length cap2) := (cell_set_ne _ (by simp)).trans ((ho1.cell (p := ⟨B, 3, none⟩) (by simp; omega) hne1).trans (cell_alloc _ hBK.cw))
  have c2 : (w1.setCell ⟨B, 2, none⟩ (.slice a1 (Z.length + 1) cap1)).cell? ⟨B, 2, none⟩ = some (.slice a1 (Z.length + 1) cap1) := World.cell?_setCell_same _ _ _ hc1
  have hfo : ∀ o, (w1.setCell ⟨B, 2, none⟩ (.slice a1 (Z.length + 1) cap1)).frozen? ⟨B, o, none⟩ = w.frozen? ⟨B, o, none⟩ := fun o => (World.frozen?_setCell ..).trans ((ho1.frozen (p := ⟨B, o, none⟩) (by simp; omega) hne1).trans (World.frozen?_alloc_past _ _ _ hBlt))
  have hco : ∀ o, o ≠ 2 → (w1.setCell ⟨B, 2, none⟩ (.slice a1 (Z.length + 1) cap1)).cell? ⟨B, o, none⟩ = w.cell? ⟨B, o, none⟩ := fun o h => (cell_set_ne _ (by simp [*])).trans ((ho1.cell (p := ⟨B, o, none⟩) (by simp; omega) hne1).trans ((Only.alloc (fun _ => False) w _).cell (p := ⟨B, o, none⟩) hBlt (fun q => q)))
  generalize (w1.setCell ⟨B, 2, none⟩ (.slice a1 (Z.length + 1) cap1)) = w2 at *
  have HCO := hide hco
  clear hco
  have hf3 := (hfo 3).trans (hBK.free 3)
  have HFO := hide hfo
  clear hfo
  have HV2 := Has.own hv2
  have hB2 : B < w2.heap.size := Nat.lt_of_lt_of_le hBlt o2.size
  clear hc1 hf1 hown1 ho1 hat1 hci o1 hri hvi hfr
  have hBc : (Value.slice a2 Z.length cap2).ownBlock ≠ some B := hBK.neB (by simp)
  go_region_law
    (first
      | (refine step_append_has (by rfl) _ _ _ (by rfl) und2 inf2 rfl (by decide) (by rfl) (by rfl) ((ownsRow_only rc2 ((Only.drew (fun _ => False) w2).trans o3) (fun _ _ q => q)).alloc _) (Has.one w3 _ _) (by intro c hc; simp at hc; subst hc; rfl) (by omega) (by omega) (Nat.zero_le _) ?_; intro v4 w4 hown4 ho4 hat4; obtain ⟨a4, cap4, rfl⟩ := own_shape hown4; have hs3 : w2.heap.size ≤ w3.heap.size := o3.size; have hne4 : (Value.slice a4 (Z.length + 1) cap4).ownBlock ≠ some B := (fun q => (hat4 B q).elim (fun q => hBc q) (fun q => absurd (Nat.lt_of_lt_of_le hB2 hs3) (by simp at q; omega))); have c4 := (ho4.cell (p := ⟨B, 3, none⟩) (by simp; omega) hne4).trans (cell_alloc _ c3'); have f4 := (ho4.frozen (p := ⟨B, 3, none⟩) (by simp; omega) hne4).trans ((World.frozen?_alloc_past _ _ _ (by omega)).trans ((o3.frozen (p := ⟨B, 3, none⟩) hB2 (fun q => q)).trans hf3)))
      | (go_simp; go_at_call 28; refine (copy_any HV2.drew hl).mono ?_; rintro e w3 ⟨u, rfl, hu, o3⟩; obtain ⟨au, cu, rfl⟩ := own_shape hu; have c3' := (o3.cell (p := ⟨B, 3, none⟩) hB2 (fun q => q)).trans c3; have hB3 : B < w3.heap.size := Nat.lt_of_lt_of_le hB2 o3.size))
  all_goals
    go_end0
    exact ⟨rfl, ints_end hBK hm hv bv o2 hat2 HFO.out HCO.out c2 ri2 hv2 ((Only.drew (fun _ => False) w2).trans o3) hu ho4 hown4 hat4 hne4 c4 ⟨rfl, rfl, rfl, rfl⟩⟩

end BK
end Go.Proofs.YtdgnfdheofacgaaGreat
