/-
  No cell of these rows narrows 'for every input' (looked for: loops, veiled, ifaces, maps, wideKeys, modest, calm, conditions, laid).
  DERIVED. THE GIVEN ROWS OF THIS SEAT. 5 by the template 'for every input the law returns true; each argument reads behind the call as it read before'; 0 by the template 'total and deterministic' (their statements: YtoeooabaofpngaaTotals.lean).
  GIVEN WITH THE SEED: the statements are not yours to turn. If you find one false, say at which input.
  Laid BY PROGRAM, IN A SANDBOX (cutbox-rows.mjs): the forced cells as the released guide's own fill.sh prints them over the translation b924232b2853324e… (all of the seat's roots in one cut). By AI agents, Wed Nov 11 2026. No macro, syntax, notation, axiom, sorry.
-/
import Derived.Test.YtoeooabaofpngaaChecked
import GoSem.Claim
import GoSem.ClaimJoined
import GoSem.ClaimMapViews
import Derived.JoinedTies
import Derived.KernelRfl
namespace Go.Proofs.Ytoeooabaofpngaa
/- THE CELL 'sum', in the pinned program and in every row, IS THE sha256 OF THE DUMP (.gsa) THAT YtoeooabaofpngaaProg.lean LOADS. Nothing in Lean hashes anything: it is a label: what it is worth is what the hold of that sum in a sandbox is worth. -/
noncomputable def Try.pinned : Pinned := { name := "ytoeooabaofpngaa", sum := "b924232b2853324e973e22b42659611ccc465c388b3e39421e09bd3b119def17", checked := Try.checked }
namespace Rows
def none {H : Type} : Left H := { results := [], args := [] }

/-- 'scantlinglaw04.OctetNumbers': WHATEVER THE INPUT: true; the input reads as it did. -/
def octetNumbersSpec : ChangeSpec := { name := "octetNumbers", fn := fun _ => fun
  | [d1, d2, d3, d4] => { results := [.lit (.bool true)], args := [d1, d2, d3, d4] }
  | _ => none }
def octetNumbersRow : OpenClaim := { program := "ytoeooabaofpngaa", sum := "b924232b2853324e973e22b42659611ccc465c388b3e39421e09bd3b119def17", func := "scantling/scantlinglaw04.OctetNumbers", spec := "octetNumbers", inPlace := ["internal/bytealg.IndexByteString", "internal/abi.NoEscape"], apart := false }
def OctetNumbersSaid : Prop := octetNumbersRow.holds Try.pinned (OpenSpec.ofChange octetNumbersSpec)

/-- ITS FALSE NEIGHBOUR: 'it returns false'. Refute it at one input. -/
def octetNumbersWrong : ChangeSpec := { name := "octetNumbers", fn := fun _ => fun
  | [d1, d2, d3, d4] => { results := [.lit (.bool false)], args := [d1, d2, d3, d4] }
  | _ => none }
def OctetNumbersWrongFalsely : Prop := octetNumbersRow.holds Try.pinned (OpenSpec.ofChange octetNumbersWrong)

/-- 'scantlinglaw04.OctetLetters': WHATEVER THE INPUT: true; the input reads as it did. -/
def octetLettersSpec : ChangeSpec := { name := "octetLetters", fn := fun _ => fun
  | [d1, d2, d3] => { results := [.lit (.bool true)], args := [d1, d2, d3] }
  | _ => none }
def octetLettersRow : OpenClaim := { program := "ytoeooabaofpngaa", sum := "b924232b2853324e973e22b42659611ccc465c388b3e39421e09bd3b119def17", func := "scantling/scantlinglaw04.OctetLetters", spec := "octetLetters", inPlace := ["internal/bytealg.IndexByteString", "internal/abi.NoEscape"], apart := false }
def OctetLettersSaid : Prop := octetLettersRow.holds Try.pinned (OpenSpec.ofChange octetLettersSpec)

/-- ITS FALSE NEIGHBOUR: 'it returns false'. Refute it at one input. -/
def octetLettersWrong : ChangeSpec := { name := "octetLetters", fn := fun _ => fun
  | [d1, d2, d3] => { results := [.lit (.bool false)], args := [d1, d2, d3] }
  | _ => none }
def OctetLettersWrongFalsely : Prop := octetLettersRow.holds Try.pinned (OpenSpec.ofChange octetLettersWrong)

/-- 'scantlinglaw04.OctetWords': WHATEVER THE INPUT: true; the input reads as it did. -/
def octetWordsSpec : ChangeSpec := { name := "octetWords", fn := fun _ => fun
  | [d1, d2, d3] => { results := [.lit (.bool true)], args := [d1, d2, d3] }
  | _ => none }
def octetWordsRow : OpenClaim := { program := "ytoeooabaofpngaa", sum := "b924232b2853324e973e22b42659611ccc465c388b3e39421e09bd3b119def17", func := "scantling/scantlinglaw04.OctetWords", spec := "octetWords", inPlace := ["internal/bytealg.IndexByteString", "internal/abi.NoEscape"], apart := false }
def OctetWordsSaid : Prop := octetWordsRow.holds Try.pinned (OpenSpec.ofChange octetWordsSpec)

/-- ITS FALSE NEIGHBOUR: 'it returns false'. Refute it at one input. -/
def octetWordsWrong : ChangeSpec := { name := "octetWords", fn := fun _ => fun
  | [d1, d2, d3] => { results := [.lit (.bool false)], args := [d1, d2, d3] }
  | _ => none }
def OctetWordsWrongFalsely : Prop := octetWordsRow.holds Try.pinned (OpenSpec.ofChange octetWordsWrong)

/-- 'scantlinglaw04.OctetBack': WHATEVER THE INPUT: true; the input reads as it did. -/
def octetBackSpec : ChangeSpec := { name := "octetBack", fn := fun _ => fun
  | [d1, d2, d3, d4] => { results := [.lit (.bool true)], args := [d1, d2, d3, d4] }
  | _ => none }
def octetBackRow : OpenClaim := { program := "ytoeooabaofpngaa", sum := "b924232b2853324e973e22b42659611ccc465c388b3e39421e09bd3b119def17", func := "scantling/scantlinglaw04.OctetBack", spec := "octetBack", inPlace := ["internal/bytealg.IndexByteString", "internal/abi.NoEscape"], apart := false }
def OctetBackSaid : Prop := octetBackRow.holds Try.pinned (OpenSpec.ofChange octetBackSpec)

/-- ITS FALSE NEIGHBOUR: 'it returns false'. Refute it at one input. -/
def octetBackWrong : ChangeSpec := { name := "octetBack", fn := fun _ => fun
  | [d1, d2, d3, d4] => { results := [.lit (.bool false)], args := [d1, d2, d3, d4] }
  | _ => none }
def OctetBackWrongFalsely : Prop := octetBackRow.holds Try.pinned (OpenSpec.ofChange octetBackWrong)

/-- 'scantlinglaw04.OctetVars': WHATEVER THE INPUT: true; the input reads as it did. -/
def octetVarsSpec : ChangeSpec := { name := "octetVars", fn := fun _ => fun
  | [d1, d2, d3] => { results := [.lit (.bool true)], args := [d1, d2, d3] }
  | _ => none }
def octetVarsRow : OpenClaim := { program := "ytoeooabaofpngaa", sum := "b924232b2853324e973e22b42659611ccc465c388b3e39421e09bd3b119def17", func := "scantling/scantlinglaw04.OctetVars", spec := "octetVars", inPlace := ["internal/bytealg.IndexByteString", "internal/abi.NoEscape"], apart := false }
def OctetVarsSaid : Prop := octetVarsRow.holds Try.pinned (OpenSpec.ofChange octetVarsSpec)

/-- ITS FALSE NEIGHBOUR: 'it returns false'. Refute it at one input. -/
def octetVarsWrong : ChangeSpec := { name := "octetVars", fn := fun _ => fun
  | [d1, d2, d3] => { results := [.lit (.bool false)], args := [d1, d2, d3] }
  | _ => none }
def OctetVarsWrongFalsely : Prop := octetVarsRow.holds Try.pinned (OpenSpec.ofChange octetVarsWrong)

/- THE SECOND FORM. 'bulk': how many values and letters a reading holds, each counted each time it is reached (what is shared counts as often as it is met; a slice's spare places count too). A statement '..UptoSaid' is the law's where the arguments, and the package variables that the reading takes, are together of bulk at most 1048576: NARROWER than '..Said'. Prove '..Said' where nothing that the law and all that it calls make is longer than what came in: it says more and counts as full. Else prove '..UptoSaid'. A law counts once. -/
mutual
def uptoBulk {H : Type} : DataW H → Nat
  | .lit (.string bytes) => bytes.length + 1
  | .lit _ => 1
  | .nil => 1
  | .ptr d => uptoBulk d + 1
  | .slice elems spare => uptoBulkAll elems + uptoBulkAll spare + 1
  | .agg parts => uptoBulkAll parts + 1
  | .iface _ d => uptoBulk d + 1
  | .map entries => uptoBulkEntries entries + 1
  | .held _ => 1
def uptoBulkAll {H : Type} : List (DataW H) → Nat
  | [] => 0
  | d :: r => uptoBulk d + uptoBulkAll r
def uptoBulkEntries {H : Type} : List (Lit × DataW H) → Nat
  | [] => 0
  | x :: r => uptoBulkEntry x + uptoBulkEntries r
def uptoBulkEntry {H : Type} : Lit × DataW H → Nat
  | (.string bytes, d) => bytes.length + uptoBulk d + 1
  | (_, d) => uptoBulk d + 1
 end
def uptoSmall : (H : Type) → List (DataW H) → Bool := fun _ ds => decide (uptoBulkAll ds ≤ 1048576)
def OpenSpec.upto (s : _root_.Go.ChangeSpec) : _root_.Go.OpenSpec := { _root_.Go.OpenSpec.ofChange s with cond := some uptoSmall }

/-- 'scantlinglaw04.OctetNumbers', WHERE WHAT IT READS IS OF BULK AT MOST 1048576: true; the input reads as it did. -/
def octetNumbersUptoRow : OpenClaim := { program := "ytoeooabaofpngaa", sum := "b924232b2853324e973e22b42659611ccc465c388b3e39421e09bd3b119def17", func := "scantling/scantlinglaw04.OctetNumbers", spec := "octetNumbers", inPlace := ["internal/bytealg.IndexByteString", "internal/abi.NoEscape"], apart := false, narrowed := true }
def OctetNumbersUptoSaid : Prop := octetNumbersUptoRow.holds Try.pinned (OpenSpec.upto octetNumbersSpec)

/-- 'scantlinglaw04.OctetLetters', WHERE WHAT IT READS IS OF BULK AT MOST 1048576: true; the input reads as it did. -/
def octetLettersUptoRow : OpenClaim := { program := "ytoeooabaofpngaa", sum := "b924232b2853324e973e22b42659611ccc465c388b3e39421e09bd3b119def17", func := "scantling/scantlinglaw04.OctetLetters", spec := "octetLetters", inPlace := ["internal/bytealg.IndexByteString", "internal/abi.NoEscape"], apart := false, narrowed := true }
def OctetLettersUptoSaid : Prop := octetLettersUptoRow.holds Try.pinned (OpenSpec.upto octetLettersSpec)

/-- 'scantlinglaw04.OctetWords', WHERE WHAT IT READS IS OF BULK AT MOST 1048576: true; the input reads as it did. -/
def octetWordsUptoRow : OpenClaim := { program := "ytoeooabaofpngaa", sum := "b924232b2853324e973e22b42659611ccc465c388b3e39421e09bd3b119def17", func := "scantling/scantlinglaw04.OctetWords", spec := "octetWords", inPlace := ["internal/bytealg.IndexByteString", "internal/abi.NoEscape"], apart := false, narrowed := true }
def OctetWordsUptoSaid : Prop := octetWordsUptoRow.holds Try.pinned (OpenSpec.upto octetWordsSpec)

/-- 'scantlinglaw04.OctetBack', WHERE WHAT IT READS IS OF BULK AT MOST 1048576: true; the input reads as it did. -/
def octetBackUptoRow : OpenClaim := { program := "ytoeooabaofpngaa", sum := "b924232b2853324e973e22b42659611ccc465c388b3e39421e09bd3b119def17", func := "scantling/scantlinglaw04.OctetBack", spec := "octetBack", inPlace := ["internal/bytealg.IndexByteString", "internal/abi.NoEscape"], apart := false, narrowed := true }
def OctetBackUptoSaid : Prop := octetBackUptoRow.holds Try.pinned (OpenSpec.upto octetBackSpec)

/-- 'scantlinglaw04.OctetVars', WHERE WHAT IT READS IS OF BULK AT MOST 1048576: true; the input reads as it did. -/
def octetVarsUptoRow : OpenClaim := { program := "ytoeooabaofpngaa", sum := "b924232b2853324e973e22b42659611ccc465c388b3e39421e09bd3b119def17", func := "scantling/scantlinglaw04.OctetVars", spec := "octetVars", inPlace := ["internal/bytealg.IndexByteString", "internal/abi.NoEscape"], apart := false, narrowed := true }
def OctetVarsUptoSaid : Prop := octetVarsUptoRow.holds Try.pinned (OpenSpec.upto octetVarsSpec)

end Rows
end Go.Proofs.Ytoeooabaofpngaa
