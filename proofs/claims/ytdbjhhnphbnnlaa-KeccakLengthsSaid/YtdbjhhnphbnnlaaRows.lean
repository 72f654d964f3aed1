/-
  No cell of these rows narrows 'for every input' (looked for: loops, veiled, ifaces, maps, wideKeys, modest, calm, conditions, laid).
  DERIVED. THE GIVEN ROWS OF THIS SEAT. 5 by the template 'for every input the law returns true; each argument reads behind the call as it read before'; 0 by the template 'total and deterministic' (their statements: YtdbjhhnphbnnlaaTotals.lean).
  GIVEN WITH THE SEED: the statements are not yours to turn. If you find one false, say at which input.
  Laid BY PROGRAM, IN A SANDBOX (cutbox-rows.mjs): the forced cells as the released guide's own fill.sh prints them over the translation 23525613331c0cef… (all of the seat's roots in one cut). By AI agents, Wed Nov 11 2026. No macro, syntax, notation, axiom, sorry.
-/
import Derived.Test.YtdbjhhnphbnnlaaChecked
import GoSem.Claim
import GoSem.ClaimJoined
import GoSem.ClaimMapViews
import Derived.JoinedTies
import Derived.KernelRfl
namespace Go.Proofs.Ytdbjhhnphbnnlaa
/- THE CELL 'sum', in the pinned program and in every row, IS THE sha256 OF THE DUMP (.gsa) THAT YtdbjhhnphbnnlaaProg.lean LOADS. Nothing in Lean hashes anything: it is a label: what it is worth is what the hold of that sum in a sandbox is worth. -/
noncomputable def Try.pinned : Pinned := { name := "ytdbjhhnphbnnlaa", sum := "23525613331c0cef551086e5534e6d29dbedd96562ea20203f5ebc569bcc1b42", checked := Try.checked }
namespace Rows
def none {H : Type} : Left H := { results := [], args := [] }

/-- 'tollhouselaw03.KeccakSums': WHATEVER THE INPUT: true; the input reads as it did. -/
def keccakSumsSpec : ChangeSpec := { name := "keccakSums", fn := fun _ => fun
  | [d1, d2] => { results := [.lit (.bool true)], args := [d1, d2] }
  | _ => none }
def keccakSumsRow : OpenClaim := { program := "ytdbjhhnphbnnlaa", sum := "23525613331c0cef551086e5534e6d29dbedd96562ea20203f5ebc569bcc1b42", func := "tollhouse/tollhouselaw03.KeccakSums", spec := "keccakSums", apart := false }
def KeccakSumsSaid : Prop := keccakSumsRow.holds Try.pinned (OpenSpec.ofChange keccakSumsSpec)

/-- ITS FALSE NEIGHBOUR: 'it returns false'. Refute it at one input. -/
def keccakSumsWrong : ChangeSpec := { name := "keccakSums", fn := fun _ => fun
  | [d1, d2] => { results := [.lit (.bool false)], args := [d1, d2] }
  | _ => none }
def KeccakSumsWrongFalsely : Prop := keccakSumsRow.holds Try.pinned (OpenSpec.ofChange keccakSumsWrong)

/-- 'tollhouselaw03.KeccakStreams': WHATEVER THE INPUT: true; the input reads as it did. -/
def keccakStreamsSpec : ChangeSpec := { name := "keccakStreams", fn := fun _ => fun
  | [d1, d2, d3, d4] => { results := [.lit (.bool true)], args := [d1, d2, d3, d4] }
  | _ => none }
def keccakStreamsRow : OpenClaim := { program := "ytdbjhhnphbnnlaa", sum := "23525613331c0cef551086e5534e6d29dbedd96562ea20203f5ebc569bcc1b42", func := "tollhouse/tollhouselaw03.KeccakStreams", spec := "keccakStreams", apart := false }
def KeccakStreamsSaid : Prop := keccakStreamsRow.holds Try.pinned (OpenSpec.ofChange keccakStreamsSpec)

/-- ITS FALSE NEIGHBOUR: 'it returns false'. Refute it at one input. -/
def keccakStreamsWrong : ChangeSpec := { name := "keccakStreams", fn := fun _ => fun
  | [d1, d2, d3, d4] => { results := [.lit (.bool false)], args := [d1, d2, d3, d4] }
  | _ => none }
def KeccakStreamsWrongFalsely : Prop := keccakStreamsRow.holds Try.pinned (OpenSpec.ofChange keccakStreamsWrong)

/-- 'tollhouselaw03.KeccakLengths': WHATEVER THE INPUT: true; the input reads as it did. -/
def keccakLengthsSpec : ChangeSpec := { name := "keccakLengths", fn := fun _ => fun
  | [d1, d2] => { results := [.lit (.bool true)], args := [d1, d2] }
  | _ => none }
def keccakLengthsRow : OpenClaim := { program := "ytdbjhhnphbnnlaa", sum := "23525613331c0cef551086e5534e6d29dbedd96562ea20203f5ebc569bcc1b42", func := "tollhouse/tollhouselaw03.KeccakLengths", spec := "keccakLengths", apart := false }
def KeccakLengthsSaid : Prop := keccakLengthsRow.holds Try.pinned (OpenSpec.ofChange keccakLengthsSpec)

/-- ITS FALSE NEIGHBOUR: 'it returns false'. Refute it at one input. -/
def keccakLengthsWrong : ChangeSpec := { name := "keccakLengths", fn := fun _ => fun
  | [d1, d2] => { results := [.lit (.bool false)], args := [d1, d2] }
  | _ => none }
def KeccakLengthsWrongFalsely : Prop := keccakLengthsRow.holds Try.pinned (OpenSpec.ofChange keccakLengthsWrong)

/-- 'tollhouselaw03.KeccakPieces': WHATEVER THE INPUT: true; the input reads as it did. -/
def keccakPiecesSpec : ChangeSpec := { name := "keccakPieces", fn := fun _ => fun
  | [d] => { results := [.lit (.bool true)], args := [d] }
  | _ => none }
def keccakPiecesRow : OpenClaim := { program := "ytdbjhhnphbnnlaa", sum := "23525613331c0cef551086e5534e6d29dbedd96562ea20203f5ebc569bcc1b42", func := "tollhouse/tollhouselaw03.KeccakPieces", spec := "keccakPieces", apart := false }
def KeccakPiecesSaid : Prop := keccakPiecesRow.holds Try.pinned (OpenSpec.ofChange keccakPiecesSpec)

/-- ITS FALSE NEIGHBOUR: 'it returns false'. Refute it at one input. -/
def keccakPiecesWrong : ChangeSpec := { name := "keccakPieces", fn := fun _ => fun
  | [d] => { results := [.lit (.bool false)], args := [d] }
  | _ => none }
def KeccakPiecesWrongFalsely : Prop := keccakPiecesRow.holds Try.pinned (OpenSpec.ofChange keccakPiecesWrong)

/-- 'tollhouselaw03.KeccakParts': WHATEVER THE INPUT: true; the input reads as it did. -/
def keccakPartsSpec : ChangeSpec := { name := "keccakParts", fn := fun _ => fun
  | [d1, d2, d3] => { results := [.lit (.bool true)], args := [d1, d2, d3] }
  | _ => none }
def keccakPartsRow : OpenClaim := { program := "ytdbjhhnphbnnlaa", sum := "23525613331c0cef551086e5534e6d29dbedd96562ea20203f5ebc569bcc1b42", func := "tollhouse/tollhouselaw03.KeccakParts", spec := "keccakParts", apart := false }
def KeccakPartsSaid : Prop := keccakPartsRow.holds Try.pinned (OpenSpec.ofChange keccakPartsSpec)

/-- ITS FALSE NEIGHBOUR: 'it returns false'. Refute it at one input. -/
def keccakPartsWrong : ChangeSpec := { name := "keccakParts", fn := fun _ => fun
  | [d1, d2, d3] => { results := [.lit (.bool false)], args := [d1, d2, d3] }
  | _ => none }
def KeccakPartsWrongFalsely : Prop := keccakPartsRow.holds Try.pinned (OpenSpec.ofChange keccakPartsWrong)

/- THE SECOND FORM. 'bulk': how many values and letters a reading holds, each counted each time it is reached (what is shared counts as often as it is met; a slice's spare places count too). A statement '..UptoSaid' is the law's where the arguments, and the package variables that the reading takes, are together of bulk at most 1048576: NARROWER than '..Said'. Prove '..Said' where nothing that the law and all that it calls make is longer than what came in: it says more and counts as full. Else prove '..UptoSaid'. A law counts once. -/
mutual
def uptoBulk {H : Type} : DataW H → Nat
  | .lit (.string bytes) => bytes.length + 1
  | .lit _ => 1
  | .nil => 1
  | .ptr d => uptoBulk d + 1
  | .slice elems spare => uptoBulkAll elems + uptoBulkAll spare + 1
  | .agg parts => uptoBulkAll parts + 1
  | .iface _ d => uptoBulk d + 1
  | .map entries => uptoBulkEntries entries + 1
  | .held _ => 1
def uptoBulkAll {H : Type} : List (DataW H) → Nat
  | [] => 0
  | d :: r => uptoBulk d + uptoBulkAll r
def uptoBulkEntries {H : Type} : List (Lit × DataW H) → Nat
  | [] => 0
  | x :: r => uptoBulkEntry x + uptoBulkEntries r
def uptoBulkEntry {H : Type} : Lit × DataW H → Nat
  | (.string bytes, d) => bytes.length + uptoBulk d + 1
  | (_, d) => uptoBulk d + 1
 end
def uptoSmall : (H : Type) → List (DataW H) → Bool := fun _ ds => decide (uptoBulkAll ds ≤ 1048576)
def OpenSpec.upto (s : _root_.Go.ChangeSpec) : _root_.Go.OpenSpec := { _root_.Go.OpenSpec.ofChange s with cond := some uptoSmall }

/-- 'tollhouselaw03.KeccakSums', WHERE WHAT IT READS IS OF BULK AT MOST 1048576: true; the input reads as it did. -/
def keccakSumsUptoRow : OpenClaim := { program := "ytdbjhhnphbnnlaa", sum := "23525613331c0cef551086e5534e6d29dbedd96562ea20203f5ebc569bcc1b42", func := "tollhouse/tollhouselaw03.KeccakSums", spec := "keccakSums", apart := false, narrowed := true }
def KeccakSumsUptoSaid : Prop := keccakSumsUptoRow.holds Try.pinned (OpenSpec.upto keccakSumsSpec)

/-- 'tollhouselaw03.KeccakStreams', WHERE WHAT IT READS IS OF BULK AT MOST 1048576: true; the input reads as it did. -/
def keccakStreamsUptoRow : OpenClaim := { program := "ytdbjhhnphbnnlaa", sum := "23525613331c0cef551086e5534e6d29dbedd96562ea20203f5ebc569bcc1b42", func := "tollhouse/tollhouselaw03.KeccakStreams", spec := "keccakStreams", apart := false, narrowed := true }
def KeccakStreamsUptoSaid : Prop := keccakStreamsUptoRow.holds Try.pinned (OpenSpec.upto keccakStreamsSpec)

/-- 'tollhouselaw03.KeccakLengths', WHERE WHAT IT READS IS OF BULK AT MOST 1048576: true; the input reads as it did. -/
def keccakLengthsUptoRow : OpenClaim := { program := "ytdbjhhnphbnnlaa", sum := "23525613331c0cef551086e5534e6d29dbedd96562ea20203f5ebc569bcc1b42", func := "tollhouse/tollhouselaw03.KeccakLengths", spec := "keccakLengths", apart := false, narrowed := true }
def KeccakLengthsUptoSaid : Prop := keccakLengthsUptoRow.holds Try.pinned (OpenSpec.upto keccakLengthsSpec)

/-- 'tollhouselaw03.KeccakPieces', WHERE WHAT IT READS IS OF BULK AT MOST 1048576: true; the input reads as it did. -/
def keccakPiecesUptoRow : OpenClaim := { program := "ytdbjhhnphbnnlaa", sum := "23525613331c0cef551086e5534e6d29dbedd96562ea20203f5ebc569bcc1b42", func := "tollhouse/tollhouselaw03.KeccakPieces", spec := "keccakPieces", apart := false, narrowed := true }
def KeccakPiecesUptoSaid : Prop := keccakPiecesUptoRow.holds Try.pinned (OpenSpec.upto keccakPiecesSpec)

/-- 'tollhouselaw03.KeccakParts', WHERE WHAT IT READS IS OF BULK AT MOST 1048576: true; the input reads as it did. -/
def keccakPartsUptoRow : OpenClaim := { program := "ytdbjhhnphbnnlaa", sum := "23525613331c0cef551086e5534e6d29dbedd96562ea20203f5ebc569bcc1b42", func := "tollhouse/tollhouselaw03.KeccakParts", spec := "keccakParts", apart := false, narrowed := true }
def KeccakPartsUptoSaid : Prop := keccakPartsUptoRow.holds Try.pinned (OpenSpec.upto keccakPartsSpec)

end Rows
end Go.Proofs.Ytdbjhhnphbnnlaa
