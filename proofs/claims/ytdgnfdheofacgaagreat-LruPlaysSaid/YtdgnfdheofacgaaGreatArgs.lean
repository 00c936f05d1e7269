/- An argument that is a slice of structs of ints, opened to its cells. No program. -/
import Derived.Deep.Slices
import Derived.Deep.Fields
import Derived.ChangeSame
import Derived.WalkKit
namespace Go.Proofs.YtdgnfdheofacgaaGreat
open Go.ChangeShapes Go.WideShapes Go.Deep

/-- field j of element i is an int -/
def ArgCells (w : World) (a : Option Addr) (len k : Nat) : Prop := ∀ i, i < len → ∃ b off, a = some ⟨b, off, none⟩ ∧ ∀ j, j < k → ∃ n : Int, w.cell? ⟨b, off + (i * k + j), none⟩ = some (.int .i64 n) ∧ (Lit.int .i64 n).wf = true

theorem args_ints {H : Type} {enc : TypeId × Value → H} {P : Program} {w : World} {base : Nat} {spare : Nat → Bool} {held : Bool} {t e : TypeId} {fs : Array Field} {fuel : Nat} {a0 : Option Addr} {len0 cap0 : Nat} {x : DataW H × List MemPlace}
    (ht : P.underlying t = some (.slice e)) (he : P.underlying e = some (.struct fs)) (hone : oneCellFields P fs = true) (hC : P.cellsOf e = fs.size) (hk : 0 < fs.size) (hint : ∀ (j : Nat) (f : Field), fs[j]? = some f → P.underlying f.type = some (.int .i64))
    (h : DataW.trod enc P w base spare held fuel t [.slice a0 len0 cap0] = some x) : ArgCells w a0 len0 fs.size := by
  rcases open_slice ht h with ⟨h0, _⟩ | ⟨a, len, cap, m, n, D, Pl, hcs, hb, hl, hm, hmm, hx, hi⟩
  · simp only [List.cons.injEq, Value.slice.injEq, and_true] at h0
    obtain ⟨rfl, rfl, rfl⟩ := h0
    intro i hi
    omega
  · simp only [List.cons.injEq, Value.slice.injEq, and_true] at hcs
    obtain ⟨rfl, rfl, rfl⟩ := hcs
    have hlm : len0 ≤ m := by rw [hmm]; split <;> omega
    have cells : ∀ i, i < m → ∀ j, j < fs.size → ∃ q : Int, w.cell? (a.add (i * fs.size + j)) = some (.int .i64 q) ∧ (Lit.int .i64 q).wf = true := by
      intro i him j hj
      obtain ⟨cs', hc, ht'⟩ := hi i him
      rw [hC] at hc
      obtain ⟨ys, n', hn', hy, hlen, hyl, hf⟩ := DataW.trod_struct he ht'
      obtain ⟨_, hcl, hat⟩ := World.cells?_some hc
      have hfj : fs[j]? = some fs[j] := Array.getElem?_eq_getElem hj
      obtain ⟨ho, hk'⟩ := hone_of hone j _ hfj
      have hcell := hat j hj
      have hv : cs'[j]? = some (cs'[j]'(by omega)) := List.getElem?_eq_getElem (by omega)
      have h1 := hf j _ hfj
      rw [ho, hk'] at h1
      have hone' : (cs'.drop j).take 1 = [cs'[j]'(by omega)] := by
        rw [List.drop_eq_getElem_cons (by omega)]
        rfl
      rw [hone'] at h1
      have hys : ys[j]? = some (ys[j]'(by omega)) := List.getElem?_eq_getElem (by omega)
      obtain ⟨q, e1, _, e3⟩ := DataW.trod_int (hint j _ hfj) (h1.trans hys)
      refine ⟨q, ?_, e3⟩
      rw [← Go.Deep.add_add, hcell, hv]
      simpa using e1
    intro i hi'
    obtain ⟨q0, h00, _⟩ := cells 0 (by omega) 0 hk
    obtain ⟨b, off, spot⟩ := a
    have hs : spot = none := by
      cases spot with
      | none => rfl
      | some q =>
        simp only [Nat.zero_mul, Nat.zero_add, Addr.add, if_pos] at h00
        simp [World.cell?] at h00
        split at h00 <;> simp at h00
    subst hs
    refine ⟨b, off, rfl, fun j hj => ?_⟩
    obtain ⟨q, h1, h2⟩ := cells i (by omega) j hj
    refine ⟨q, ?_, h2⟩
    by_cases e0 : i * fs.size + j = 0
    · rw [e0] at h1 ⊢; simpa [Addr.add] using h1
    · rw [Addr.add, if_neg e0] at h1; exact h1

end Go.Proofs.YtdgnfdheofacgaaGreat
