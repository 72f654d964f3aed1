/-
  No cell of these rows narrows 'for every input' (looked for: loops, veiled, ifaces, maps, wideKeys, modest, calm, conditions, laid).
  DERIVED. THE GIVEN ROWS OF THIS SEAT. 3 by the template 'for every input the law returns true; each argument reads behind the call as it read before'; 0 by the template 'total and deterministic' (their statements: YtmchiomkgbeofaaTotals.lean).
  GIVEN WITH THE SEED: the statements are not yours to turn. If you find one false, say at which input.
  Laid BY PROGRAM, IN A SANDBOX (cutbox-rows.mjs): the forced cells as the released guide's own fill.sh prints them over the translation 48feabd27e3cb926… (all of the seat's roots in one cut). By AI agents, Wed Nov 11 2026. No macro, syntax, notation, axiom, sorry.
-/
import Derived.Test.YtmchiomkgbeofaaChecked
import GoSem.Claim
import GoSem.ClaimJoined
import GoSem.ClaimMapViews
import Derived.JoinedTies
import Derived.KernelRfl
namespace Go.Proofs.Ytmchiomkgbeofaa
/- THE CELL 'sum', in the pinned program and in every row, IS THE sha256 OF THE DUMP (.gsa) THAT YtmchiomkgbeofaaProg.lean LOADS. Nothing in Lean hashes anything: it is a label: what it is worth is what the hold of that sum in a sandbox is worth. -/
noncomputable def Try.pinned : Pinned := { name := "ytmchiomkgbeofaa", sum := "48feabd27e3cb926650f5c8971018531313ad6aa5d13948a5a36c652a9698d4a", checked := Try.checked }
namespace Rows
def none {H : Type} : Left H := { results := [], args := [] }

/-- 'tollhouselaw21.ScoreOrders': WHATEVER THE INPUT: true; the input reads as it did. -/
def scoreOrdersSpec : ChangeSpec := { name := "scoreOrders", fn := fun _ => fun
  | [d1, d2, d3] => { results := [.lit (.bool true)], args := [d1, d2, d3] }
  | _ => none }
def scoreOrdersRow : OpenClaim := { program := "ytmchiomkgbeofaa", sum := "48feabd27e3cb926650f5c8971018531313ad6aa5d13948a5a36c652a9698d4a", func := "tollhouse/tollhouselaw21.ScoreOrders", spec := "scoreOrders", inPlace := ["math.Float64bits", "math.Float64frombits"], apart := false }
def ScoreOrdersSaid : Prop := scoreOrdersRow.holds Try.pinned (OpenSpec.ofChange scoreOrdersSpec)

/-- ITS FALSE NEIGHBOUR: 'it returns false'. Refute it at one input. -/
def scoreOrdersWrong : ChangeSpec := { name := "scoreOrders", fn := fun _ => fun
  | [d1, d2, d3] => { results := [.lit (.bool false)], args := [d1, d2, d3] }
  | _ => none }
def ScoreOrdersWrongFalsely : Prop := scoreOrdersRow.holds Try.pinned (OpenSpec.ofChange scoreOrdersWrong)

/-- 'tollhouselaw21.ScoreForgets': WHATEVER THE INPUT: true; the input reads as it did. -/
def scoreForgetsSpec : ChangeSpec := { name := "scoreForgets", fn := fun _ => fun
  | [d1, d2] => { results := [.lit (.bool true)], args := [d1, d2] }
  | _ => none }
def scoreForgetsRow : OpenClaim := { program := "ytmchiomkgbeofaa", sum := "48feabd27e3cb926650f5c8971018531313ad6aa5d13948a5a36c652a9698d4a", func := "tollhouse/tollhouselaw21.ScoreForgets", spec := "scoreForgets", inPlace := ["math.Float64bits", "math.Float64frombits"], apart := false }
def ScoreForgetsSaid : Prop := scoreForgetsRow.holds Try.pinned (OpenSpec.ofChange scoreForgetsSpec)

/-- ITS FALSE NEIGHBOUR: 'it returns false'. Refute it at one input. -/
def scoreForgetsWrong : ChangeSpec := { name := "scoreForgets", fn := fun _ => fun
  | [d1, d2] => { results := [.lit (.bool false)], args := [d1, d2] }
  | _ => none }
def ScoreForgetsWrongFalsely : Prop := scoreForgetsRow.holds Try.pinned (OpenSpec.ofChange scoreForgetsWrong)

/-- 'tollhouselaw21.ScoreDear': WHATEVER THE INPUT: true; the input reads as it did. -/
def scoreDearSpec : ChangeSpec := { name := "scoreDear", fn := fun _ => fun
  | [d1, d2, d3, d4, d5] => { results := [.lit (.bool true)], args := [d1, d2, d3, d4, d5] }
  | _ => none }
def scoreDearRow : OpenClaim := { program := "ytmchiomkgbeofaa", sum := "48feabd27e3cb926650f5c8971018531313ad6aa5d13948a5a36c652a9698d4a", func := "tollhouse/tollhouselaw21.ScoreDear", spec := "scoreDear", inPlace := ["math.Float64bits", "math.Float64frombits"], apart := false }
def ScoreDearSaid : Prop := scoreDearRow.holds Try.pinned (OpenSpec.ofChange scoreDearSpec)

/-- ITS FALSE NEIGHBOUR: 'it returns false'. Refute it at one input. -/
def scoreDearWrong : ChangeSpec := { name := "scoreDear", fn := fun _ => fun
  | [d1, d2, d3, d4, d5] => { results := [.lit (.bool false)], args := [d1, d2, d3, d4, d5] }
  | _ => none }
def ScoreDearWrongFalsely : Prop := scoreDearRow.holds Try.pinned (OpenSpec.ofChange scoreDearWrong)

/- THE SECOND FORM. 'bulk': how many values and letters a reading holds, each counted each time it is reached (what is shared counts as often as it is met; a slice's spare places count too). A statement '..UptoSaid' is the law's where the arguments, and the package variables that the reading takes, are together of bulk at most 1048576: NARROWER than '..Said'. Prove '..Said' where nothing that the law and all that it calls make is longer than what came in: it says more and counts as full. Else prove '..UptoSaid'. A law counts once. -/
mutual
def uptoBulk {H : Type} : DataW H → Nat
  | .lit (.string bytes) => bytes.length + 1
  | .lit _ => 1
  | .nil => 1
  | .ptr d => uptoBulk d + 1
  | .slice elems spare => uptoBulkAll elems + uptoBulkAll spare + 1
  | .agg parts => uptoBulkAll parts + 1
  | .iface _ d => uptoBulk d + 1
  | .map entries => uptoBulkEntries entries + 1
  | .held _ => 1
def uptoBulkAll {H : Type} : List (DataW H) → Nat
  | [] => 0
  | d :: r => uptoBulk d + uptoBulkAll r
def uptoBulkEntries {H : Type} : List (Lit × DataW H) → Nat
  | [] => 0
  | x :: r => uptoBulkEntry x + uptoBulkEntries r
def uptoBulkEntry {H : Type} : Lit × DataW H → Nat
  | (.string bytes, d) => bytes.length + uptoBulk d + 1
  | (_, d) => uptoBulk d + 1
 end
def uptoSmall : (H : Type) → List (DataW H) → Bool := fun _ ds => decide (uptoBulkAll ds ≤ 1048576)
def OpenSpec.upto (s : _root_.Go.ChangeSpec) : _root_.Go.OpenSpec := { _root_.Go.OpenSpec.ofChange s with cond := some uptoSmall }

/-- 'tollhouselaw21.ScoreOrders', WHERE WHAT IT READS IS OF BULK AT MOST 1048576: true; the input reads as it did. -/
def scoreOrdersUptoRow : OpenClaim := { program := "ytmchiomkgbeofaa", sum := "48feabd27e3cb926650f5c8971018531313ad6aa5d13948a5a36c652a9698d4a", func := "tollhouse/tollhouselaw21.ScoreOrders", spec := "scoreOrders", inPlace := ["math.Float64bits", "math.Float64frombits"], apart := false, narrowed := true }
def ScoreOrdersUptoSaid : Prop := scoreOrdersUptoRow.holds Try.pinned (OpenSpec.upto scoreOrdersSpec)

/-- 'tollhouselaw21.ScoreForgets', WHERE WHAT IT READS IS OF BULK AT MOST 1048576: true; the input reads as it did. -/
def scoreForgetsUptoRow : OpenClaim := { program := "ytmchiomkgbeofaa", sum := "48feabd27e3cb926650f5c8971018531313ad6aa5d13948a5a36c652a9698d4a", func := "tollhouse/tollhouselaw21.ScoreForgets", spec := "scoreForgets", inPlace := ["math.Float64bits", "math.Float64frombits"], apart := false, narrowed := true }
def ScoreForgetsUptoSaid : Prop := scoreForgetsUptoRow.holds Try.pinned (OpenSpec.upto scoreForgetsSpec)

/-- 'tollhouselaw21.ScoreDear', WHERE WHAT IT READS IS OF BULK AT MOST 1048576: true; the input reads as it did. -/
def scoreDearUptoRow : OpenClaim := { program := "ytmchiomkgbeofaa", sum := "48feabd27e3cb926650f5c8971018531313ad6aa5d13948a5a36c652a9698d4a", func := "tollhouse/tollhouselaw21.ScoreDear", spec := "scoreDear", inPlace := ["math.Float64bits", "math.Float64frombits"], apart := false, narrowed := true }
def ScoreDearUptoSaid : Prop := scoreDearUptoRow.holds Try.pinned (OpenSpec.upto scoreDearSpec)

end Rows
end Go.Proofs.Ytmchiomkgbeofaa
