/- Plain facts about a round of nodes that are linked both ways (package lru), of no program: what taking one out and putting one first does to the memory. -/
import Derived.Test.YtdgnfdheofacgaaGreatMem
namespace Go.Proofs.YtdgnfdheofacgaaGreat

/-- where a node begins: its block, its place there -/
abbrev Pl := Nat × Nat
abbrev Pl.ad (a : Pl) (o : Nat) : Addr := ⟨a.1, a.2 + o, none⟩
abbrev ptr (a : Pl) : Value := .pointer (some ⟨a.1, a.2, none⟩)

section
variable (pv nx : Nat)

def Link (w : World) (a z : Pl) : Prop := w.cell? (a.ad nx) = some (ptr z) ∧ w.cell? (z.ad pv) = some (ptr a)

def Path (w : World) : List Pl → Prop
  | [] => True
  | [_] => True
  | a :: b :: l => Link pv nx w a b ∧ Path w (b :: l)

theorem path_split (w : World) (p n : Pl) (l2 : List Pl) : ∀ l1 : List Pl, Path pv nx w (l1 ++ p :: n :: l2) ↔ Path pv nx w (l1 ++ [p]) ∧ Link pv nx w p n ∧ Path pv nx w (n :: l2)
  | [] => by simp [Path]
  | [a] => by simp [Path]
  | a :: b :: l => by
    have ih := path_split w p n l2 (b :: l)
    simp only [List.cons_append, Path] at ih ⊢
    rw [ih]; exact ⟨fun ⟨a, b, c, d⟩ => ⟨⟨a, b⟩, c, d⟩, fun ⟨⟨a, b⟩, c, d⟩ => ⟨a, b, c, d⟩⟩

theorem path_congr {w w' : World} : ∀ l : List Pl, (∀ a ∈ l.dropLast, w'.cell? (a.ad nx) = w.cell? (a.ad nx)) → (∀ a ∈ l.tail, w'.cell? (a.ad pv) = w.cell? (a.ad pv)) → Path pv nx w l → Path pv nx w' l
  | [], _, _, _ => trivial
  | [_], _, _, _ => trivial
  | a :: b :: l, hn, hp, h => by
    obtain ⟨⟨h1, h2⟩, h3⟩ := h
    refine ⟨⟨(hn a (by simp)).trans h1, (hp b (by simp)).trans h2⟩, path_congr (b :: l) (fun x hx => hn x ?_) (fun x hx => hp x ?_) h3⟩
    · rw [List.dropLast_cons_of_ne_nil (by simp)]; exact List.mem_cons_of_mem _ hx
    · exact List.mem_cons_of_mem _ hx

/-- No two of these begin in one block. -/
def Apart (l : List Pl) : Prop := ∀ a ∈ l, ∀ b ∈ l, a.1 = b.1 → a = b

variable {pv nx}
theorem ad_ne_ad {a b : Pl} {o : Nat} (h : a ≠ b) : a.ad o ≠ b.ad o := by
  intro e
  simp only [Pl.ad, Addr.mk.injEq, Nat.add_right_cancel_iff] at e
  exact h (Prod.ext e.1 e.2.1)
theorem ad_ne_of {a b : Pl} {o q : Nat} (ho : o ≠ q) (h : a.1 = b.1 → a = b) : a.ad o ≠ b.ad q := by
  intro e
  simp only [Pl.ad, Addr.mk.injEq] at e
  have := h e.1
  subst this
  omega
theorem ad_ne_block {a b : Pl} {o q : Nat} (h : a.1 ≠ b.1) : a.ad o ≠ b.ad q := by
  intro e
  simp only [Pl.ad, Addr.mk.injEq] at e
  exact h e.1

/-- x goes out of the round between p and n. -/
theorem path_off (hne : pv ≠ nx) {w : World} {l1 l2 : List Pl} {p x n : Pl} (h : Path pv nx w (l1 ++ p :: x :: n :: l2)) (hA : Apart (l1 ++ p :: n :: l2))
    (h1 : p ∉ l1) (h2 : n ∉ (l1 ++ [p]).tail) (h3 : p ∉ (n :: l2).dropLast) (h4 : n ∉ l2) :
    Path pv nx ((w.setCell (p.ad nx) (ptr n)).setCell (n.ad pv) (ptr p)) (l1 ++ p :: n :: l2) := by
  rw [path_split] at h
  obtain ⟨ha, hpx, hb⟩ := h
  obtain ⟨hxn, hb⟩ := hb
  have hmem : ∀ a, a ∈ l1 ∨ a = p ∨ a = n ∨ a ∈ l2 → a ∈ l1 ++ p :: n :: l2 := by intro a h; simpa using h
  have e1 : (w.setCell (p.ad nx) (ptr n)).cell? (n.ad pv) = some (ptr x) := by
    rw [cell_set_ne _ (ad_ne_of hne (fun e => hA _ (hmem n (by simp)) _ (hmem p (by simp)) e))]; exact hxn.2
  have other : ∀ a : Pl, ∀ o, a.ad o ≠ p.ad nx → a.ad o ≠ n.ad pv → ((w.setCell (p.ad nx) (ptr n)).setCell (n.ad pv) (ptr p)).cell? (a.ad o) = w.cell? (a.ad o) := by
    intro a o q1 q2
    rw [cell_set_ne _ q2, cell_set_ne _ q1]
  rw [path_split]
  refine ⟨path_congr pv nx _ ?_ ?_ ha, ⟨?_, ?_⟩, path_congr pv nx _ ?_ ?_ hb⟩
  · intro a hm
    rw [List.dropLast_concat] at hm
    exact other a nx (ad_ne_ad (fun e => h1 (e ▸ hm))) (ad_ne_of (Ne.symm hne) (fun e => hA _ (hmem a (.inl hm)) _ (hmem n (by simp)) e))
  · intro a hm
    have hm' : a ∈ l1 ∨ a = p := by have := List.mem_of_mem_tail hm; simpa using this
    exact other a pv (ad_ne_of hne (fun e => hA _ (hmem a (hm'.elim .inl (fun q => .inr (.inl q)))) _ (hmem p (by simp)) e)) (ad_ne_ad (fun e => h2 (e ▸ hm)))
  · rw [cell_set_ne _ (ad_ne_of (Ne.symm hne) (fun e => hA _ (hmem p (by simp)) _ (hmem n (by simp)) e)), World.cell?_setCell_same _ _ _ hpx.1]
  · exact World.cell?_setCell_same _ _ _ e1
  · intro a hm
    have hm' : a = n ∨ a ∈ l2 := by have := List.dropLast_subset _ hm; simpa using this
    exact other a nx (ad_ne_ad (fun e => h3 (e ▸ hm))) (ad_ne_of (Ne.symm hne) (fun e => hA _ (hmem a (hm'.elim (fun q => .inr (.inr (.inl q))) (fun q => .inr (.inr (.inr q))))) _ (hmem n (by simp)) e))
  · intro a hm
    have hm' : a ∈ l2 := hm
    exact other a pv (ad_ne_of hne (fun e => hA _ (hmem a (.inr (.inr (.inr hm')))) _ (hmem p (by simp)) e)) (ad_ne_ad (fun e => h4 (e ▸ hm')))

/-- x comes in between h and n. -/
theorem path_first (hne : pv ≠ nx) {w : World} {l2 : List Pl} {h x n : Pl} {u1 u2 : Value} (hp : Path pv nx w (h :: n :: l2)) (hA : Apart (h :: n :: l2))
    (hx : ∀ a ∈ h :: n :: l2, a.1 ≠ x.1) (h3 : h ∉ (n :: l2).dropLast) (h4 : n ∉ l2) (c1 : w.cell? (x.ad pv) = some u1) (c2 : w.cell? (x.ad nx) = some u2) :
    Path pv nx ((((w.setCell (x.ad pv) (ptr h)).setCell (x.ad nx) (ptr n)).setCell (h.ad nx) (ptr x)).setCell (n.ad pv) (ptr x)) (h :: x :: n :: l2) := by
  obtain ⟨hl, hb⟩ := hp
  have xh : h.1 ≠ x.1 := hx h (by simp)
  have xn : n.1 ≠ x.1 := hx n (by simp)
  have d1 : (x.ad nx) ≠ (x.ad pv) := ad_ne_of (Ne.symm hne) (fun _ => rfl)
  have dhn : h.ad nx ≠ n.ad pv := ad_ne_of (Ne.symm hne) (fun e => hA _ (by simp) _ (by simp) e)
  refine ⟨⟨?_, ?_⟩, ⟨?_, ?_⟩, path_congr pv nx _ ?_ ?_ hb⟩
  · rw [cell_set_ne _ dhn]
    refine World.cell?_setCell_same _ _ _ (u := ptr n) ?_
    rw [cell_set_ne _ (ad_ne_block xh), cell_set_ne _ (ad_ne_block xh)]; exact hl.1
  · rw [cell_set_ne _ (ad_ne_block (Ne.symm xn)), cell_set_ne _ (ad_ne_block (Ne.symm xh)), cell_set_ne _ (Ne.symm d1)]
    exact World.cell?_setCell_same _ _ _ c1
  · rw [cell_set_ne _ (ad_ne_block (Ne.symm xn)), cell_set_ne _ (ad_ne_block (Ne.symm xh))]
    refine World.cell?_setCell_same _ _ _ (u := u2) ?_
    rw [cell_set_ne _ d1]; exact c2
  · refine World.cell?_setCell_same _ _ _ (u := ptr h) ?_
    rw [cell_set_ne _ (Ne.symm dhn), cell_set_ne _ (ad_ne_block xn), cell_set_ne _ (ad_ne_block xn)]; exact hl.2
  · intro a hm
    have hm' : a ∈ n :: l2 := List.dropLast_subset _ hm
    have xa := hx a (List.mem_cons_of_mem _ hm')
    rw [cell_set_ne _ (ad_ne_of (Ne.symm hne) (fun e => hA _ (List.mem_cons_of_mem _ hm') _ (by simp) e)), cell_set_ne _ (ad_ne_ad (fun e : a = h => h3 (e ▸ hm))), cell_set_ne _ (ad_ne_block xa), cell_set_ne _ (ad_ne_block xa)]
  · intro a hm
    have hm' : a ∈ l2 := hm
    have xa := hx a (by simp [hm'])
    rw [cell_set_ne _ (ad_ne_ad (fun e : a = n => h4 (e ▸ hm'))), cell_set_ne _ (ad_ne_of hne (fun e => hA _ (by simp [hm']) _ (by simp) e)), cell_set_ne _ (ad_ne_block xa), cell_set_ne _ (ad_ne_block xa)]

end
end Go.Proofs.YtdgnfdheofacgaaGreat
