/- A region that draws its order, in which one cell is read by loads and is written at the very end (operation n): what the loads read ('S') is asked as long as n has not come up. No program. -/
import Derived.OrdersHeld
import Derived.RegionTactic
namespace Go.Proofs.YtdgnfdheofacgaaGreat

section
variable {P : Program} {ops : Array Oper} {Q : Exit → Act → World → Prop} {md : Region.Mode} {S : World → Prop} {n : Nat}

/-- Whatever order is picked from here on; behind each operation but n, S holds. -/
def AnyN (P : Program) (md : Region.Mode) (ops : Array Oper) (Q : Exit → Act → World → Prop) (S : World → Prop) (n : Nat) : Nat → Array Bool → Act → World → Prop
  | 0, listed, a, w => Region.ready md ops listed = [] ∧ Q .normal a w
  | k + 1, listed, a, w => (Region.ready md ops listed = [] → Q .normal a w) ∧
    ∀ i ∈ Region.ready md ops listed, wpOp P ops Q i (fun a' w' => (i ≠ n → S w') ∧ AnyN P md ops Q S n k (listed.setIfInBounds i true) a' w') a w

theorem any_of_n : ∀ (k : Nat) (listed : Array Bool) (a : Act) (w : World), AnyN P md ops Q S n k listed a w → wpAny P md ops Q k listed a w
  | 0, _, _, _, h => h
  | k + 1, _, _, _, h => ⟨h.1, fun i hi => wpOp_mono (fun a' w' h' => any_of_n k _ a' w' h'.2) (h.2 i hi)⟩

theorem region_n {id : Nat} {a : Act} {w : World} (hm : P.follows .mixedOrders = true)
    (h : AnyN P .any ops Q S n ops.size (Array.replicate ops.size false) a w.drew) : (Code.region id ops true).wp P Q a w :=
  wp_region_any hm (any_of_n _ _ _ _ h)

/-- Every operation of D but i waits for one of D, and so does n. -/
def waits (md : Region.Mode) (ops : Array Oper) (D : List Nat) (i n : Nat) : Bool :=
  (n :: D).all fun k => k == i || ((ops[k]?).map fun o => o.after.any fun e => Region.binds md e && D.contains e.on).getD true

theorem not_ready {D : List Nat} {i : Nat} (hw : waits md ops D i n = true) {listed : Array Bool} (hl : ∀ k ∈ D, listed.getD k true = false) {k : Nat} (hk : k ∈ n :: D) (hne : k ≠ i) : k ∉ Region.ready md ops listed := by
  intro hr
  obtain ⟨_, o, ho, hall⟩ := mem_ready.1 hr
  have h1 := List.all_eq_true.1 hw k hk
  simp only [Bool.or_eq_true, beq_iff_eq, hne, false_or, ho, Option.map_some, Option.getD_some] at h1
  obtain ⟨e, he, hb⟩ := Array.any_eq_true'.1 h1
  simp only [Bool.and_eq_true, List.contains_eq_mem, decide_eq_true_eq] at hb
  have h2 := hall e he hb.1
  have h3 := hl _ hb.2
  rcases Nat.lt_or_ge e.on listed.size with h' | h'
  · simp [h'] at h2 h3; rw [h2] at h3; cases h3
  · simp [Array.getElem?_eq_none h'] at h3

theorem n_first {i : Nat} {oi : Oper} {v : Value} {D : List Nat} (hi : ops[i]? = some oi) (hsel : ∀ (j : Nat) (o : Oper) cs b, ops[j]? = some o → o.op ≠ .select cs b)
    (hQ : ∀ c a w, Q (.panic c) (a.put oi.dst v) w → Q (.panic c) a w) (hw : waits md ops D i n = true) (hin : i ≠ n) (hiD : i ∈ D) :
    ∀ (k : Nat) (listed : Array Bool) (a : Act) (w : World), (∀ d ∈ D, listed.getD d true = false) →
      (∀ j oj, ops[j]? = some oj → j ≠ i → listed.getD j true = false → (∀ e ∈ oj.after, Region.binds md e = true → e.on ≠ i) → oi.apart ops oj = true) →
      i ∈ Region.ready md ops listed → YieldsIf P ops S oi v a → S w →
      AnyN P md ops Q S n k (listed.setIfInBounds i true) (a.put oi.dst v) w → AnyN P md ops Q S n (k + 1) listed a w := by
  intro k
  induction k with
  | zero =>
    intro listed a w hl _ hr hy hS H
    refine ⟨fun h => (by rw [h] at hr; cases hr), fun j hj => ?_⟩
    by_cases hji : j = i
    · subst hji; exact hy.wpOp hi hS ⟨fun _ => hS, H⟩
    · have := ready_mono hj hji
      rw [H.1] at this
      cases this
  | succ k ih =>
    intro listed a w hl hfree hr hy hS H
    refine ⟨fun h => (by rw [h] at hr; cases hr), fun j hj => ?_⟩
    by_cases hji : j = i
    · subst hji; exact hy.wpOp hi hS ⟨fun _ => hS, H⟩
    · have hjD : j ∉ n :: D := fun q => not_ready hw hl q hji hj
      have hjn : j ≠ n := fun e => hjD (by rw [e]; simp)
      have h1 := H.2 j (ready_mono hj hji)
      obtain ⟨hjun, oj, hoj, hall⟩ := mem_ready.1 hj
      have hnot : ∀ e ∈ oj.after, Region.binds md e = true → e.on ≠ i := fun e he hb heq => by
        have h1 := hall e he hb
        have h0 := (mem_ready.1 hr).1
        rw [heq] at h1
        rcases Nat.lt_or_ge i listed.size with h' | h'
        · simp [h'] at h0 h1; rw [h0] at h1; cases h1
        · simp [Array.getElem?_eq_none h'] at h1
      have h2 := wpOp_putIf hoj (hfree j oj hoj hji hjun hnot) (fun cs b => hsel i oi cs b hi) (fun cs b => hsel j oj cs b hoj) hQ hy h1
      have hfree' : ∀ k ok, ops[k]? = some ok → k ≠ i → (listed.setIfInBounds j true).getD k true = false →
          (∀ e ∈ ok.after, Region.binds md e = true → e.on ≠ i) → oi.apart ops ok = true := fun k ok hk hki hun hno => by
        refine hfree k ok hk hki ?_ hno
        by_cases hjk : j = k
        · subst hjk; exact hjun
        · rw [getD_set_ne true hjk] at hun; exact hun
      have hl' : ∀ d ∈ D, (listed.setIfInBounds j true).getD d true = false := fun d hd => by
        rw [getD_set_ne true (fun e => hjD (by rw [e]; simp [hd]))]; exact hl d hd
      refine wpOp_mono (fun a' w' h3 => ⟨h3.2.1, ih (listed.setIfInBounds j true) a' w' hl' hfree' (ready_mono hr (Ne.symm hji)) h3.1 (h3.2.1 hjn) ?_⟩) h2
      rw [Array.setIfInBounds_comm _ _ hji]
      exact h3.2.2

/-- Operation i yields v in every world that meets S: it may be taken first. -/
theorem n_take {i : Nat} {oi : Oper} {v : Value} {D : List Nat} {k : Nat} {listed : Array Bool} {a : Act} {w : World} (hi : ops[i]? = some oi)
    (hs : Region.noSelect ops = true) (hf : Region.free md ops listed i = true) (hr : (Region.ready md ops listed).contains i = true)
    (hw : waits md ops D i n = true) (hl : (D.all fun d => !(listed.getD d true)) = true) (hin : i ≠ n) (hiD : i ∈ D)
    (hQ : ∀ c a w, Q (.panic c) (a.put oi.dst v) w → Q (.panic c) a w) (hy : YieldsIf P ops S oi v a) (hS : S w)
    (h : AnyN P md ops Q S n k (listed.setIfInBounds i true) (a.put oi.dst v) w) : AnyN P md ops Q S n (k + 1) listed a w :=
  n_first hi (Region.noSelect_spec hs) hQ hw hin hiD k listed a w (fun d hd => by simpa using List.all_eq_true.1 hl d hd) (Region.free_spec hi hf) (by simpa using hr) hy hS h

/-- .. the operation left to be read off the text. -/
theorem n_step {i : Nat} {D : List Nat} {k : Nat} {listed : Array Bool} {a : Act} {w : World}
    (hs : Region.noSelect ops = true) (hf : Region.free md ops listed i = true) (hr : (Region.ready md ops listed).contains i = true)
    (hw : waits md ops D i n = true) (hl : (D.all fun d => !(listed.getD d true)) = true) (hin : i ≠ n) (hiD : i ∈ D) (hS : S w)
    (h : ∃ oi, ops[i]? = some oi ∧ ∃ v, (∀ c a w, Q (.panic c) (a.put oi.dst v) w → Q (.panic c) a w) ∧ YieldsIf P ops S oi v a ∧ AnyN P md ops Q S n k (listed.setIfInBounds i true) (a.put oi.dst v) w) :
    AnyN P md ops Q S n (k + 1) listed a w := by
  obtain ⟨oi, hi, v, hQ, hy, h⟩ := h
  exact n_take hi hs hf hr hw hl hin hiD hQ hy hS h

/-- .. the operation left to be read off the text. -/
theorem n_next {i : Nat} {k : Nat} {listed : Array Bool} {a : Act} {w : World} (hr : Region.ready md ops listed = [i])
    (h : ∃ o, ops[i]? = some o ∧ ∀ K' : Act → World → Prop, (∀ a w, ((i ≠ n → S w) ∧ AnyN P md ops Q S n k (listed.setIfInBounds i true) a w) → K' a w) → if Region.wanted o (yielded ops a.tmps) = true then Oper.wp P o a w K' Q else K' (a.put o.dst undef) w) :
    AnyN P md ops Q S n (k + 1) listed a w := by
  obtain ⟨o, ho, h⟩ := h
  exact ⟨fun h0 => (by rw [hr] at h0; cases h0), fun j hj => by
    rw [hr] at hj
    obtain rfl := List.mem_singleton.1 hj
    exact wpOp_step ho h⟩

/-- The only one that may come up comes up. -/
theorem n_one {i : Nat} {o : Oper} {k : Nat} {listed : Array Bool} {a : Act} {w : World} (hr : Region.ready md ops listed = [i]) (ho : ops[i]? = some o)
    (h : ∀ K' : Act → World → Prop, (∀ a w, ((i ≠ n → S w) ∧ AnyN P md ops Q S n k (listed.setIfInBounds i true) a w) → K' a w) → if Region.wanted o (yielded ops a.tmps) = true then Oper.wp P o a w K' Q else K' (a.put o.dst undef) w) :
    AnyN P md ops Q S n (k + 1) listed a w :=
  ⟨fun h0 => (by rw [hr] at h0; cases h0), fun j hj => by
    rw [hr] at hj
    obtain rfl := List.mem_singleton.1 hj
    exact wpOp_step ho h⟩

theorem n_done {listed : Array Bool} {a : Act} {w : World} (hr : Region.ready md ops listed = []) (h : Q .normal a w) : ∀ k, AnyN P md ops Q S n k listed a w
  | 0 => ⟨hr, h⟩
  | _ + 1 => ⟨fun _ => h, by rw [hr]; simp⟩
end

end Go.Proofs.YtdgnfdheofacgaaGreat
