/-
  No cell of these rows narrows 'for every input' (looked for: loops, veiled, ifaces, maps, wideKeys, modest, calm, conditions, laid).
  DERIVED. THE GIVEN ROWS OF THIS SEAT. 4 by the template 'for every input the law returns true; each argument reads behind the call as it read before'; 0 by the template 'total and deterministic' (their statements: YtdgnfdheofacgaaTotals.lean).
  GIVEN WITH THE SEED: the statements are not yours to turn. If you find one false, say at which input.
  Laid BY PROGRAM, IN A SANDBOX (cutbox-rows.mjs): the forced cells as the released guide's own fill.sh prints them over the translation e2b39b3b6659ba5c… (all of the seat's roots in one cut). By AI agents, Wed Nov 11 2026. No macro, syntax, notation, axiom, sorry.
-/
import Derived.Test.YtdgnfdheofacgaaChecked
import GoSem.Claim
import GoSem.ClaimJoined
import GoSem.ClaimMapViews
import Derived.JoinedTies
import Derived.KernelRfl
namespace Go.Proofs.Ytdgnfdheofacgaa
/- THE CELL 'sum', in the pinned program and in every row, IS THE sha256 OF THE DUMP (.gsa) THAT YtdgnfdheofacgaaProg.lean LOADS. Nothing in Lean hashes anything: it is a label: what it is worth is what the hold of that sum in a sandbox is worth. -/
noncomputable def Try.pinned : Pinned := { name := "ytdgnfdheofacgaa", sum := "e2b39b3b6659ba5cc2537426114ef7804681a6c89e45b2ddd73410e7576a7820", checked := Try.checked }
namespace Rows
def none {H : Type} : Left H := { results := [], args := [] }

/-- 'commonslaw5.LruOrder': WHATEVER THE INPUT: true; the input reads as it did. -/
def lruOrderSpec : ChangeSpec := { name := "lruOrder", fn := fun _ => fun
  | [d1, d2] => { results := [.lit (.bool true)], args := [d1, d2] }
  | _ => none }
def lruOrderRow : OpenClaim := { program := "ytdgnfdheofacgaa", sum := "e2b39b3b6659ba5cc2537426114ef7804681a6c89e45b2ddd73410e7576a7820", func := "commons/commonslaw5.LruOrder", spec := "lruOrder", apart := false }
def LruOrderSaid : Prop := lruOrderRow.holds Try.pinned (OpenSpec.ofChange lruOrderSpec)

/-- ITS FALSE NEIGHBOUR: 'it returns false'. Refute it at one input. -/
def lruOrderWrong : ChangeSpec := { name := "lruOrder", fn := fun _ => fun
  | [d1, d2] => { results := [.lit (.bool false)], args := [d1, d2] }
  | _ => none }
def LruOrderWrongFalsely : Prop := lruOrderRow.holds Try.pinned (OpenSpec.ofChange lruOrderWrong)

/-- 'commonslaw5.LruKeeps': WHATEVER THE INPUT: true; the input reads as it did. -/
def lruKeepsSpec : ChangeSpec := { name := "lruKeeps", fn := fun _ => fun
  | [d1, d2, d3] => { results := [.lit (.bool true)], args := [d1, d2, d3] }
  | _ => none }
def lruKeepsRow : OpenClaim := { program := "ytdgnfdheofacgaa", sum := "e2b39b3b6659ba5cc2537426114ef7804681a6c89e45b2ddd73410e7576a7820", func := "commons/commonslaw5.LruKeeps", spec := "lruKeeps", apart := false }
def LruKeepsSaid : Prop := lruKeepsRow.holds Try.pinned (OpenSpec.ofChange lruKeepsSpec)

/-- ITS FALSE NEIGHBOUR: 'it returns false'. Refute it at one input. -/
def lruKeepsWrong : ChangeSpec := { name := "lruKeeps", fn := fun _ => fun
  | [d1, d2, d3] => { results := [.lit (.bool false)], args := [d1, d2, d3] }
  | _ => none }
def LruKeepsWrongFalsely : Prop := lruKeepsRow.holds Try.pinned (OpenSpec.ofChange lruKeepsWrong)

/-- 'commonslaw5.LruPins': WHATEVER THE INPUT: true; the input reads as it did. -/
def lruPinsSpec : ChangeSpec := { name := "lruPins", fn := fun _ => fun
  | [d] => { results := [.lit (.bool true)], args := [d] }
  | _ => none }
def lruPinsRow : OpenClaim := { program := "ytdgnfdheofacgaa", sum := "e2b39b3b6659ba5cc2537426114ef7804681a6c89e45b2ddd73410e7576a7820", func := "commons/commonslaw5.LruPins", spec := "lruPins", apart := false }
def LruPinsSaid : Prop := lruPinsRow.holds Try.pinned (OpenSpec.ofChange lruPinsSpec)

/-- ITS FALSE NEIGHBOUR: 'it returns false'. Refute it at one input. -/
def lruPinsWrong : ChangeSpec := { name := "lruPins", fn := fun _ => fun
  | [d] => { results := [.lit (.bool false)], args := [d] }
  | _ => none }
def LruPinsWrongFalsely : Prop := lruPinsRow.holds Try.pinned (OpenSpec.ofChange lruPinsWrong)

/-- 'commonslaw5.LruNone': WHATEVER THE INPUT: true; the input reads as it did. -/
def lruNoneSpec : ChangeSpec := { name := "lruNone", fn := fun _ => fun
  | [d1, d2] => { results := [.lit (.bool true)], args := [d1, d2] }
  | _ => none }
def lruNoneRow : OpenClaim := { program := "ytdgnfdheofacgaa", sum := "e2b39b3b6659ba5cc2537426114ef7804681a6c89e45b2ddd73410e7576a7820", func := "commons/commonslaw5.LruNone", spec := "lruNone", apart := false }
def LruNoneSaid : Prop := lruNoneRow.holds Try.pinned (OpenSpec.ofChange lruNoneSpec)

/-- ITS FALSE NEIGHBOUR: 'it returns false'. Refute it at one input. -/
def lruNoneWrong : ChangeSpec := { name := "lruNone", fn := fun _ => fun
  | [d1, d2] => { results := [.lit (.bool false)], args := [d1, d2] }
  | _ => none }
def LruNoneWrongFalsely : Prop := lruNoneRow.holds Try.pinned (OpenSpec.ofChange lruNoneWrong)

/- THE SECOND FORM. 'bulk': how many values and letters a reading holds, each counted each time it is reached (what is shared counts as often as it is met; a slice's spare places count too). A statement '..UptoSaid' is the law's where the arguments, and the package variables that the reading takes, are together of bulk at most 1048576: NARROWER than '..Said'. Prove '..Said' where nothing that the law and all that it calls make is longer than what came in: it says more and counts as full. Else prove '..UptoSaid'. A law counts once. -/
mutual
def uptoBulk {H : Type} : DataW H → Nat
  | .lit (.string bytes) => bytes.length + 1
  | .lit _ => 1
  | .nil => 1
  | .ptr d => uptoBulk d + 1
  | .slice elems spare => uptoBulkAll elems + uptoBulkAll spare + 1
  | .agg parts => uptoBulkAll parts + 1
  | .iface _ d => uptoBulk d + 1
  | .map entries => uptoBulkEntries entries + 1
  | .held _ => 1
def uptoBulkAll {H : Type} : List (DataW H) → Nat
  | [] => 0
  | d :: r => uptoBulk d + uptoBulkAll r
def uptoBulkEntries {H : Type} : List (Lit × DataW H) → Nat
  | [] => 0
  | x :: r => uptoBulkEntry x + uptoBulkEntries r
def uptoBulkEntry {H : Type} : Lit × DataW H → Nat
  | (.string bytes, d) => bytes.length + uptoBulk d + 1
  | (_, d) => uptoBulk d + 1
 end
def uptoSmall : (H : Type) → List (DataW H) → Bool := fun _ ds => decide (uptoBulkAll ds ≤ 1048576)
def OpenSpec.upto (s : _root_.Go.ChangeSpec) : _root_.Go.OpenSpec := { _root_.Go.OpenSpec.ofChange s with cond := some uptoSmall }

/-- 'commonslaw5.LruOrder', WHERE WHAT IT READS IS OF BULK AT MOST 1048576: true; the input reads as it did. -/
def lruOrderUptoRow : OpenClaim := { program := "ytdgnfdheofacgaa", sum := "e2b39b3b6659ba5cc2537426114ef7804681a6c89e45b2ddd73410e7576a7820", func := "commons/commonslaw5.LruOrder", spec := "lruOrder", apart := false, narrowed := true }
def LruOrderUptoSaid : Prop := lruOrderUptoRow.holds Try.pinned (OpenSpec.upto lruOrderSpec)

/-- 'commonslaw5.LruKeeps', WHERE WHAT IT READS IS OF BULK AT MOST 1048576: true; the input reads as it did. -/
def lruKeepsUptoRow : OpenClaim := { program := "ytdgnfdheofacgaa", sum := "e2b39b3b6659ba5cc2537426114ef7804681a6c89e45b2ddd73410e7576a7820", func := "commons/commonslaw5.LruKeeps", spec := "lruKeeps", apart := false, narrowed := true }
def LruKeepsUptoSaid : Prop := lruKeepsUptoRow.holds Try.pinned (OpenSpec.upto lruKeepsSpec)

/-- 'commonslaw5.LruPins', WHERE WHAT IT READS IS OF BULK AT MOST 1048576: true; the input reads as it did. -/
def lruPinsUptoRow : OpenClaim := { program := "ytdgnfdheofacgaa", sum := "e2b39b3b6659ba5cc2537426114ef7804681a6c89e45b2ddd73410e7576a7820", func := "commons/commonslaw5.LruPins", spec := "lruPins", apart := false, narrowed := true }
def LruPinsUptoSaid : Prop := lruPinsUptoRow.holds Try.pinned (OpenSpec.upto lruPinsSpec)

/-- 'commonslaw5.LruNone', WHERE WHAT IT READS IS OF BULK AT MOST 1048576: true; the input reads as it did. -/
def lruNoneUptoRow : OpenClaim := { program := "ytdgnfdheofacgaa", sum := "e2b39b3b6659ba5cc2537426114ef7804681a6c89e45b2ddd73410e7576a7820", func := "commons/commonslaw5.LruNone", spec := "lruNone", apart := false, narrowed := true }
def LruNoneUptoSaid : Prop := lruNoneUptoRow.holds Try.pinned (OpenSpec.upto lruNoneSpec)

end Rows
end Go.Proofs.Ytdgnfdheofacgaa
