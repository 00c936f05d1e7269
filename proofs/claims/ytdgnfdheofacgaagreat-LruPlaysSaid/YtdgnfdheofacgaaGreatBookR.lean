/- commonsbook.Book at ints: each list is grown (grow); are lists what was marked (marked). -/
import Derived.Test.YtdgnfdheofacgaaGreatBookQ
namespace Go.Proofs.YtdgnfdheofacgaaGreat
open Go.RowKit
namespace BK

theorem ints_marks (i n m : Nat) : ints (marks i 0 n) ++ ints (marks i n m) = ints (marks i 0 (n + m)) := by
  have := marks_add i 0 n m
  rw [Nat.zero_add] at this
  rw [← this]; simp [ints]

/-- the blocks of the first k lists -/
def ahead (Z : List Kp) (k : Nat) (b : Nat) : Prop := ∃ i z, i < k ∧ Z[i]? = some z ∧ z.v.ownBlock = some b

/-- what was grown of the first k lists -/
structure Grown1 (w0 w : World) (Z : List Kp) (k : Nat) (v : Value) (G : List Value) : Prop where
  len : G.length = k
  row : w.ownsRow w0.heap.size 65 1 v k G
  g : ∀ i z g, Z[i]? = some z → G[i]? = some g → w.ownsRow 0 3 1 g (z.l.length + 72) (ints (marks i 0 (z.l.length + 72))) ∧ (∀ b, g.ownBlock = some b → z.v.ownBlock = some b ∨ w0.heap.size ≤ b)
  z : ∀ i z, i < k → Z[i]? = some z → Has w 1 z.v z.l.length (ints (marks i 0 z.l.length))
  only : Only (ahead Z k) w0 w

/-- One list more was grown. -/
theorem grown_step {w wo wr w2 w3 w4 : World} {Z : List Kp} {j n m k1 : Nat} {v v3 v4 la : Value} {G : List Value} {z : Kp} {b1 : Option Addr} {ob : Obj} (hltZ : ∀ z ∈ Z, ∀ b, z.v.ownBlock = some b → b < w.heap.size) (hG : Grown1 w wo Z j v G) (hz : Z[j]? = some z) (he : z.v = .slice b1 n k1) (hn : n = z.l.length) (hm : m = n + 12)
    (hnz : ∀ b, (Value.slice b1 n k1).ownBlock = some b → ¬ ahead Z j b) (hltz : ∀ b, (Value.slice b1 n k1).ownBlock = some b → b < w.heap.size) (hfz : Fore (.slice b1 n k1)) (hH : Has wr 1 (.slice b1 n k1) n (ints (marks j 0 n))) (ho : Only (fun b => (Value.slice b1 n k1).ownBlock = some b) wo wr)
    (hat : ∀ b, la.ownBlock = some b → (Value.slice b1 n k1).ownBlock = some b ∨ wo.heap.size ≤ b) (o2 : Only (fun _ => False) wr w2)
    (hrow3 : w3.ownsRow 0 3 1 v3 (m + 60) (ints (marks j 0 m) ++ ints (marks j m 60))) (o3 : Only (fun b => v3.ownBlock = some b) w2 w3) (hat3 : ∀ b, v3.ownBlock = some b → la.ownBlock = some b ∨ w2.heap.size ≤ b)
    (hrow4 : w4.ownsRow w.heap.size 65 1 v4 (j + 1) (G ++ [v3])) (o4 : Only (fun b => v4.ownBlock = some b) (w3.alloc ob) w4) (hat4 : ∀ b, v4.ownBlock = some b → v.ownBlock = some b ∨ (w3.alloc ob).heap.size ≤ b) : Grown1 w w4 Z (j + 1) v4 (G ++ [v3]) := by
  have hs1 := hG.only.size
  have hs2 := ho.size
  have hs3 := o2.size
  have hs4 := o3.size
  have hs5 := o4.size
  simp only [World.size_alloc] at hs5
  have hat4' : ∀ b, v4.ownBlock = some b → v.ownBlock = some b ∨ w3.heap.size < b := fun b q => (hat4 b q).elim .inl (fun q => .inr (by simp at q; omega))
  have hat3' : ∀ b, v3.ownBlock = some b → (Value.slice b1 n k1).ownBlock = some b ∨ wo.heap.size ≤ b := fun b q => (hat3 b q).elim (hat b) (fun q => .inr (by omega))
  have hvlt : ∀ b, v.ownBlock = some b → w.heap.size ≤ b ∧ b < wo.heap.size := fun b q => hG.row.lt b q
  have hv4 : ∀ b, v4.ownBlock = some b → w.heap.size ≤ b := fun b q => (hrow4.lt b q).1
  -- all that was there before, but the list's block and v4's
  have o5 : Only (fun b => (Value.slice b1 n k1).ownBlock = some b ∨ v4.ownBlock = some b) wo w4 := by
    refine Only.then (S := fun b => (Value.slice b1 n k1).ownBlock = some b ∨ v4.ownBlock = some b) (((ho.trans (o2.mono fun _ _ q => q.elim)).then o3 (fun b q => hat3' b q)).mono fun b _ q => .inl q) ((Only.alloc (fun b => v4.ownBlock = some b) w3 ob).trans o4) (fun b q => .inl (.inr q))
  have hlen := hG.len
  have hrow5 : w4.ownsRow 0 3 1 v3 (m + 60) (ints (marks j 0 m) ++ ints (marks j m 60)) := by
    refine ownsRow_only hrow3 ((Only.alloc (fun b => v4.ownBlock = some b) w3 ob).trans o4) (fun b q r => ?_)
    have h1 := (hrow3.lt b q).2
    rcases hat4' b r with s | s
    · rcases hat3' b q with t | t
      · have := hltz b t; have := hvlt b s; omega
      · have := hvlt b s; omega
    · omega
  refine ⟨by simp [hlen], hrow4, ?_, ?_, ?_⟩
  · intro i z' g hz' hg
    by_cases hi : i < j
    · rw [List.getElem?_append_left (by omega)] at hg
      obtain ⟨r1, r2⟩ := hG.g i z' g hz' hg
      refine ⟨ownsRow_only r1 o5 (fun b q r => ?_), r2⟩
      rcases r with r | r
      · rcases r2 b q with s | s
        · exact hnz b r ⟨i, z', hi, hz', s⟩
        · have := hltz b r; omega
      · rcases hat4' b r with s | s
        · exact own_ne r1 hG.row (by decide) q s
        · have := (r1.lt b q).2; omega
    · have hij : i = j := by
        have := (List.getElem?_eq_some_iff.1 hg).1
        simp [hlen] at this; omega
      subst hij
      rw [hz] at hz'
      cases hz'
      rw [List.getElem?_append_right (by omega), hlen, Nat.sub_self] at hg
      simp only [List.getElem?_cons_zero, Option.some.injEq] at hg
      subst hg
      rw [← hn]
      have e : m + 60 = n + 72 := by omega
      rw [ints_marks, e] at hrow5
      refine ⟨hrow5, fun b q => ?_⟩
      rcases hat3' b q with s | s
      · exact .inl (by rw [he]; exact s)
      · exact .inr (by omega)
  · intro i z' hi hz'
    by_cases hij : i < j
    · refine (hG.z i z' hij hz').only o5 (fun b q r => ?_)
      rcases r with r | r
      · exact hnz b r ⟨i, z', hij, hz', q⟩
      · have hb : b < w.heap.size := hltZ z' (List.mem_of_getElem? hz') b q
        have := hv4 b r; omega
    · have hij : i = j := by omega
      subst hij
      rw [hz] at hz'
      cases hz'
      rw [he, ← hn]
      have h1 := (hH.only o2 (fun _ _ q => q)).grown hfz hrow3 o3 (by rw [ints_marks]; simp only [ints, ← List.map_take, marks_take i 0 (m + 60) n (by omega)])
      refine h1.only ((Only.alloc (fun b => v4.ownBlock = some b) w3 ob).trans o4) (fun b q r => ?_)
      have := hltz b q
      have := hv4 b r
      omega
  · refine Only.then (S := ahead Z (j + 1)) (hG.only.mono fun b _ ⟨i, z, h1, h2⟩ => ⟨i, z, by omega, h2⟩) o5 fun b q => ?_
    rcases q with q | q
    · exact .inl ⟨j, z, by omega, hz, by rw [he]; exact q⟩
    · exact .inr (hv4 b q)

set_option maxRecDepth 100000 in
set_option maxHeartbeats 1000000 in
theorem grow_any {K : Nat → Prop} {w : World} {B : Nat} {vi vw : Value} {Z : List Kp} (h : At K w B vi vw Z) (hZ : Z.length ≤ 1000) (hl : ∀ z ∈ Z, z.l.length ≤ 100000) (hmk : ∀ i z, Z[i]? = some z → z.l = marks i 0 z.l.length) :
    Calls Tryz.prog 60 #[.pointer (some ⟨B, 0, none⟩)] w fun e w' => ∃ v G, e = .returned v ∧ Grown1 w w' Z Z.length v G := by
  obtain ⟨a, cap, rfl⟩ := own_shape h.ri
  have HL := hide hl
  have HBK := hide h
  have HMK := hide hmk
  have hBlt := h.klt B h.kB
  have hnB : ∀ k, ¬ ahead Z k B := fun k ⟨i, z, _, hz, q⟩ => h.neB (p := z.v.ownBlock) (by simp only [List.mem_cons, List.mem_flatMap]; exact .inr (.inr ⟨z, List.mem_of_getElem? hz, by simp⟩)) q
  have hnI : ∀ k b, (Value.slice a Z.length cap).ownBlock = some b → ¬ ahead Z k b := fun k b e ⟨i, z, _, hz, q⟩ => h.neI (p := z.v.ownBlock) (by simp only [List.mem_cons, List.mem_flatMap]; exact .inr ⟨z, List.mem_of_getElem? hz, by simp⟩) e q
  have hnZ : ∀ k z, Z[k]? = some z → ∀ b, z.v.ownBlock = some b → ¬ ahead Z k b := by
    intro k z hz b e ⟨i, z', hi, hz', q⟩
    have h4 := (List.pairwise_cons.1 (List.pairwise_cons.1 (List.pairwise_cons.1 h.apt).2).2).2
    have hp : ((Z.map fun z => z.v.ownBlock)).Pairwise (fun p q => ∀ b, p = some b → q ≠ some b) := by
      clear h HL HBK HMK hBlt hnB hnI hz hz' hi hl hmk hZ
      induction Z with
      | nil => exact List.Pairwise.nil
      | cons a r ih =>
        simp only [List.flatMap_cons, List.cons_append, List.nil_append, List.pairwise_cons] at h4
        rw [List.map_cons, List.pairwise_cons]
        refine ⟨fun q hq => ?_, ih h4.2.2⟩
        obtain ⟨z, hz, rfl⟩ := List.mem_map.1 hq
        exact h4.1 _ (by simp only [List.mem_cons, List.mem_flatMap]; exact .inr ⟨z, hz, by simp⟩)
    have hkl := (List.getElem?_eq_some_iff.1 hz).1
    refine List.pairwise_iff_getElem.1 hp i k (by simp; omega) (by simpa using hkl) hi b ?_ ?_
    · rw [List.getElem_map, (List.getElem?_eq_some_iff.1 hz').2]; exact q
    · rw [List.getElem_map, (List.getElem?_eq_some_iff.1 hz).2]; exact e
  have HNB := hide hnB
  have HNI := hide hnI
  have HNZ := hide hnZ
  clear h hl hmk hnB hnI hnZ
  go_enter Tryz.func60, Tryz.ntmps60
  go_wp2_with fail
  go_loopw [3, 4, 5, 6] (fun v i _ _ wr => ∃ (j : Nat) (G : List Value), j ≤ Z.length ∧ i = .int .i64 j ∧ Grown1 w wr Z j v G) (fun _ i _ _ _ => Z.length - (intOf i).toNat)
  case atStart => exact ⟨0, [], Nat.zero_le _, rfl, rfl, World.ownsRow_nil _ _ _ _, fun i z g _ e => by simp at e, fun i z e => by omega, Only.refl _ _⟩
  case round =>
    obtain ⟨j, G, hj, rfl, hG⟩ := hrel
    have hsz := hG.only.size
    have hci : wr.cell? ⟨B, 2, none⟩ = some (.slice a Z.length cap) := (hG.only.cell (p := ⟨B, 2, none⟩) hBlt (HNB.out j)).trans HBK.out.ci
    by_cases hlt : j < Z.length
    · obtain ⟨z, hz⟩ := get_lt hlt
      have hzm := List.mem_of_getElem? hz
      have hri := ownsRow_only HBK.out.ri hG.only (fun b q => HNI.out j b q)
      obtain ⟨g, cp, e⟩ := own_form hri (by omega)
      cases e
      have c1 : wr.cell? ⟨g, j, none⟩ = some z.v := by rw [hri.cellAt j (by omega), List.getElem?_map, hz]; rfl
      have o0 := (HBK.out.own z hzm).1
      have o1 := ownsRow_only o0 hG.only (fun b q => HNZ.out j z hz b q)
      rw [HMK.out j z hz] at o1
      rw [length_marks] at o1
      have hltz : ∀ b, z.v.ownBlock = some b → b < w.heap.size := fun b q => (o0.lt b q).2
      have hll := HL.out z hzm
      have hjn : (j : Int) < Z.length := by omega
      obtain ⟨n, hn⟩ : ∃ n, n = z.l.length := ⟨_, rfl⟩
      rw [← hn] at o1 hll
      obtain ⟨b1, k1, e1⟩ := own_shape o1
      obtain ⟨zv, hzv⟩ : ∃ zv, zv = Value.slice b1 n k1 := ⟨_, rfl⟩
      have hfz := fore_own o1
      have hH1 := Has.own o1
      rw [e1] at c1 o1 hltz hfz hH1
      have HZ := hide hz
      have HE := hide e1
      have HN := hide hn
      have HGW := hide hG
      clear hzv hri o0 hz hzm e1 hn hG
      obtain ⟨wo, hwo⟩ : ∃ wo : World, wo = wr := ⟨_, rfl⟩
      subst hwo
      go_wp2_with fail
      go_loopw [5, 6] (fun lv t wq => ∃ k : Nat, k ≤ 12 ∧ t = .int .i64 k ∧ wq.ownsRow 0 3 1 lv (n + k) (ints (marks j 0 (n + k))) ∧ (∀ b, lv.ownBlock = some b → (Value.slice b1 n k1).ownBlock = some b ∨ wo.heap.size ≤ b) ∧ Has wq 1 (.slice b1 n k1) n (ints (marks j 0 n)) ∧ Only (fun b => (Value.slice b1 n k1).ownBlock = some b) wo wq) (fun _ t _ => 12 - (intOf t).toNat)
      case atStart => exact ⟨0, by omega, rfl, o1, fun b q => .inl q, hH1, Only.refl _ _⟩
      case round =>
        clear o1 hH1
        obtain ⟨k, hk, rfl, hrow, hat, hH, ho⟩ := hrel
        obtain ⟨m, hm⟩ : ∃ m, m = n + k := ⟨_, rfl⟩
        rw [← hm] at hrow
        have hml : m ≤ 200000 := by omega
        obtain ⟨la, lc, rfl⟩ := own_shape hrow
        by_cases hlt2 : k < 12
        · have HM := hide hm
          clear hm
          go_wp2_with fail
          refine (mark_any j m 1 (by omega) (by omega) (by omega) _).mono ?_
          rintro e w2 ⟨u, rfl, hu, o2⟩
          have hrow2 := ownsRow_only hrow o2 (fun _ _ q => q)
          have HU := Has.own hu
          obtain ⟨ua, uc, rfl⟩ := own_shape hu
          go_wp2_with (at_builtin; refine wpList_append_has rfl _ _ _ rfl und1 inf1 rfl (by decide) rfl rfl hrow2 HU (ints_one _) (by omega) (by omega) (Nat.zero_le _) ?_; intro v3 w3 hrow3 o3 hat3)
          have hsz2 : wr.heap.size ≤ w2.heap.size := o2.size
          have hsz1 : wo.heap.size ≤ wr.heap.size := ho.size
          have hH3 := (hH.only o2 (fun _ _ q => q)).grown hfz hrow3 o3 (by rw [ints_marks]; simp only [ints, ← List.map_take, marks_take j 0 (m + 1) n (by have := HM.out; omega)])
          have hat' : ∀ b, v3.ownBlock = some b → (Value.slice b1 n k1).ownBlock = some b ∨ wo.heap.size ≤ b := fun b q => (hat3 b q).elim (hat b) (fun q => .inr (by omega))
          have ho3 : Only (fun b => (Value.slice b1 n k1).ownBlock = some b) wo w3 := (ho.trans (o2.mono fun _ _ q => q.elim)).then o3 (fun b q => hat' b q)
          have hrow4 : w3.ownsRow 0 3 1 v3 (n + (k + 1)) (ints (marks j 0 (n + (k + 1)))) := by
            rw [ints_marks] at hrow3
            have e : n + (k + 1) = m + 1 := by have := HM.out; omega
            rw [e]; exact hrow3
          clear hrow hat hH ho o2 hu hrow2 HU hrow3 o3 hat3
          go_wp2_with fail
          go_roundw
          case rel => exact ⟨k + 1, hlt2, by go_num, hrow4, hat', hH3, ho3⟩
          case measure => simp [intOf]; omega
        · obtain rfl : k = 12 := by omega
          have HM := hide hm
          clear hm
          go_wp2_with fail
          refine (mark_any j m 60 (by omega) (by omega) (by omega) _).mono ?_
          rintro e w2 ⟨u, rfl, hu, o2⟩
          have hrow2 := ownsRow_only hrow o2 (fun _ _ q => q)
          have HU := Has.own hu
          obtain ⟨ua, uc, rfl⟩ := own_shape hu
          have hsz2 : wr.heap.size ≤ w2.heap.size := o2.size
          have hsz1 : wo.heap.size ≤ wr.heap.size := ho.size
          have hG3 : wr.ownsRow w.heap.size 65 1 u3 j G := ownsRow_only HGW.out.row ho (fun b q r => by have := (HGW.out.row.lt b q).1; have := hltz b r; omega)
          have hG4 := ownsRow_only hG3 o2 (fun _ _ q => q)
          go_wp2_with (first
            | (at_builtin; refine wpList_append_has rfl (.tmp 34) (.tmp 38) _ rfl und1 inf1 rfl (by decide) rfl rfl hrow2 HU (ints_one _) (by omega) (by omega) (Nat.zero_le _) ?_; intro v3 w3 hrow3 o3 hat3; obtain ⟨va, vc, rfl⟩ := own_shape hrow3; have hG5 := ownsRow_only hG4 o3 (fun b q r => (hat3 b r).elim (own_ne hrow2 hG4 (by decide) · q) (fun r => by have := (hG4.lt b q).2; omega)))
            | (at_builtin; refine wpList_append_has rfl (.tmp 33) (.tmp 40) _ rfl und2 inf2 rfl (by decide) rfl rfl (hG5.alloc _) (Has.one w3 _ _) (by intro c hc; simp at hc; subst hc; rfl) (by omega) (by omega) (by have := o3.size; simp; omega) ?_; intro v4 w4 hrow4 o4 hat4))
          have hGn := grown_step (fun z hz b q => ((HBK.out.own z hz).1.lt b q).2) HGW.out HZ.out HE.out HN.out HM.out (fun b q => HNZ.out j z HZ.out b (by rw [HE.out]; exact q)) hltz hfz hH ho hat (o2.mono fun _ _ q => q) hrow3 o3 hat3 hrow4 o4 hat4
          clear hH ho hat o2 hu hrow2 HU hrow3 o3 hat3 hG3 hG4 hG5 hrow4 o4 hat4 hrow
          go_wp2_with fail
          go_roundw
          case rel => exact ⟨j + 1, _, hlt, by go_num, hGn⟩
          case measure => simp [intOf]; omega
    · obtain rfl : j = Z.length := by omega
      go_wp2_with fail
      go_ret
      exact ⟨_, G, rfl, hG⟩

theorem marked_any {w : World} {base : Nat} {v : Value} {n : Nat} {G : List Value} {N : Nat → Nat} (hrow : w.ownsRow base 65 1 v n G) (hn : n ≤ 1000) (hG : ∀ i g, G[i]? = some g → Has w 1 g (N i) (ints (marks i 0 (N i)))) (hN : ∀ i, i < n → N i ≤ 1000000) :
    Calls Tryz.prog 75 #[v] w fun e w' => e = .returned (.bool true) ∧ Only (fun _ => False) w w' := by
  obtain ⟨a, cap, rfl⟩ := own_shape hrow
  have HR := hide hrow
  have HG := hide hG
  have HN := hide hN
  clear hrow hG hN
  go_enter Tryz.func75, Tryz.ntmps75
  go_wp2_with fail
  go_loopw [3] (fun i wr => ∃ j : Nat, j ≤ n ∧ i = .int .i64 j ∧ Only (fun _ => False) w wr) (fun i _ => n - (intOf i).toNat)
  case atStart => exact ⟨0, Nat.zero_le _, rfl, Only.refl _ _⟩
  case round =>
    obtain ⟨j, hj, rfl, ho⟩ := hrel
    by_cases hlt : j < n
    · have hr := ownsRow_only HR.out ho (fun _ _ q => q)
      obtain ⟨g, cp, e⟩ := own_form hr (by omega)
      cases e
      obtain ⟨x, hx⟩ := get_lt (Z := G) (i := j) (by have := hr.1; omega)
      have hH := (HG.out j x hx).only ho (fun _ _ q => q)
      have c1 : wr.cell? ⟨g, j, none⟩ = some x := by rw [hr.cellAt j (by omega)]; exact hx
      obtain ⟨b1, k1, rfl⟩ := hH.shape
      have hjn : (j : Int) < n := by omega
      have hNj := HN.out j hlt
      have hg := lt_of_cell c1
      obtain ⟨m, hm⟩ : ∃ m, m = N j := ⟨_, rfl⟩
      rw [← hm] at c1 hH hNj
      clear hr hx hm
      go_wp2_with fail
      go_region_held3 (fun w' => w'.cell? ⟨g, j, none⟩ = some (.slice b1 m k1)) (first | go_keep | assumption)
        (first
          | (go_at_call 107; refine (mark_any j 0 m (by omega) (by omega) hNj _).mono ?_; rintro e w2 ⟨u, rfl, hu, o2⟩; have c2 := (o2.cell (p := ⟨g, j, none⟩) hg (fun q => q)).trans c1)
          | (go_at_call 19; refine (same_any (l := marks j 0 m) (w := w2) (by rw [length_marks]; exact (hH.drew).only o2 (fun _ _ q => q)) (by rw [length_marks]; exact Has.own hu) (by rw [length_marks]; exact hNj)).mono ?_; rintro e w3 ⟨rfl, q3, hq3⟩; have c3 : w3.cell? ⟨g, j, none⟩ = some (.slice b1 m k1) := (by rw [hq3]; exact c2)))
      all_goals
        have ho3 : Only (fun _ => False) w (w2.drewN q3) := (ho.trans ((Only.drew (fun _ => False) wr).trans o2)).trans (Like.only (w' := w2.drewN q3) (w := w2) ⟨rfl, rfl, rfl, rfl⟩ _)
        clear ho o2 hq3 hu c2 c3 c1 hH
        go_wp2_with fail
        go_roundw
        case rel => exact ⟨j + 1, hlt, by go_num, ho3⟩
        case measure => simp [intOf]; omega
    · obtain rfl : j = n := by omega
      go_wp2_with fail
      go_ret
      exact ⟨rfl, ho⟩

end BK
end Go.Proofs.YtdgnfdheofacgaaGreat
