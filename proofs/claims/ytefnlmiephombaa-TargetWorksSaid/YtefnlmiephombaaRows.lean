/-
  No cell of these rows narrows 'for every input' (looked for: loops, veiled, ifaces, maps, wideKeys, modest, calm, conditions, laid).
  DERIVED. THE GIVEN ROWS OF THIS SEAT. 11 by the template 'for every input the law returns true; each argument reads behind the call as it read before'; 0 by the template 'total and deterministic' (their statements: YtefnlmiephombaaTotals.lean).
  GIVEN WITH THE SEED: the statements are not yours to turn. If you find one false, say at which input.
  Laid BY PROGRAM, IN A SANDBOX (cutbox-rows.mjs): the forced cells as the released guide's own fill.sh prints them over the translation 4853482762e5de2b… (all of the seat's roots in one cut). By AI agents, Wed Nov 11 2026. No macro, syntax, notation, axiom, sorry.
-/
import Derived.Test.YtefnlmiephombaaChecked
import GoSem.Claim
import GoSem.ClaimJoined
import GoSem.ClaimMapViews
import Derived.JoinedTies
import Derived.KernelRfl
namespace Go.Proofs.Ytefnlmiephombaa
/- THE CELL 'sum', in the pinned program and in every row, IS THE sha256 OF THE DUMP (.gsa) THAT YtefnlmiephombaaProg.lean LOADS. Nothing in Lean hashes anything: it is a label: what it is worth is what the hold of that sum in a sandbox is worth. -/
noncomputable def Try.pinned : Pinned := { name := "ytefnlmiephombaa", sum := "4853482762e5de2b1be096c303a3372058cebef6fa7fe0a5e718098934481e4a", checked := Try.checked }
namespace Rows
def none {H : Type} : Left H := { results := [], args := [] }

/-- 'scantlinglaw02.BigParts': WHATEVER THE INPUT: true; the input reads as it did. -/
def bigPartsSpec : ChangeSpec := { name := "bigParts", fn := fun _ => fun
  | [d1, d2, d3] => { results := [.lit (.bool true)], args := [d1, d2, d3] }
  | _ => none }
def bigPartsRow : OpenClaim := { program := "ytefnlmiephombaa", sum := "4853482762e5de2b1be096c303a3372058cebef6fa7fe0a5e718098934481e4a", func := "scantling/scantlinglaw02.BigParts", spec := "bigParts", inPlace := ["math/bits.Sub64", "math/bits.Add64"], apart := false }
def BigPartsSaid : Prop := bigPartsRow.holds Try.pinned (OpenSpec.ofChange bigPartsSpec)

/-- ITS FALSE NEIGHBOUR: 'it returns false'. Refute it at one input. -/
def bigPartsWrong : ChangeSpec := { name := "bigParts", fn := fun _ => fun
  | [d1, d2, d3] => { results := [.lit (.bool false)], args := [d1, d2, d3] }
  | _ => none }
def BigPartsWrongFalsely : Prop := bigPartsRow.holds Try.pinned (OpenSpec.ofChange bigPartsWrong)

/-- 'scantlinglaw02.BigMoves': WHATEVER THE INPUT: true; the input reads as it did. -/
def bigMovesSpec : ChangeSpec := { name := "bigMoves", fn := fun _ => fun
  | [d1, d2] => { results := [.lit (.bool true)], args := [d1, d2] }
  | _ => none }
def bigMovesRow : OpenClaim := { program := "ytefnlmiephombaa", sum := "4853482762e5de2b1be096c303a3372058cebef6fa7fe0a5e718098934481e4a", func := "scantling/scantlinglaw02.BigMoves", spec := "bigMoves", inPlace := ["math/bits.Add64", "math/bits.Sub64"], apart := false }
def BigMovesSaid : Prop := bigMovesRow.holds Try.pinned (OpenSpec.ofChange bigMovesSpec)

/-- ITS FALSE NEIGHBOUR: 'it returns false'. Refute it at one input. -/
def bigMovesWrong : ChangeSpec := { name := "bigMoves", fn := fun _ => fun
  | [d1, d2] => { results := [.lit (.bool false)], args := [d1, d2] }
  | _ => none }
def BigMovesWrongFalsely : Prop := bigMovesRow.holds Try.pinned (OpenSpec.ofChange bigMovesWrong)

/-- 'scantlinglaw02.BigSums': WHATEVER THE INPUT: true; the input reads as it did. -/
def bigSumsSpec : ChangeSpec := { name := "bigSums", fn := fun _ => fun
  | [d1, d2, d3] => { results := [.lit (.bool true)], args := [d1, d2, d3] }
  | _ => none }
def bigSumsRow : OpenClaim := { program := "ytefnlmiephombaa", sum := "4853482762e5de2b1be096c303a3372058cebef6fa7fe0a5e718098934481e4a", func := "scantling/scantlinglaw02.BigSums", spec := "bigSums", inPlace := ["math/bits.Add64", "math/bits.Sub64"], apart := false }
def BigSumsSaid : Prop := bigSumsRow.holds Try.pinned (OpenSpec.ofChange bigSumsSpec)

/-- ITS FALSE NEIGHBOUR: 'it returns false'. Refute it at one input. -/
def bigSumsWrong : ChangeSpec := { name := "bigSums", fn := fun _ => fun
  | [d1, d2, d3] => { results := [.lit (.bool false)], args := [d1, d2, d3] }
  | _ => none }
def BigSumsWrongFalsely : Prop := bigSumsRow.holds Try.pinned (OpenSpec.ofChange bigSumsWrong)

/-- 'scantlinglaw02.BigBack': WHATEVER THE INPUT: true; the input reads as it did. -/
def bigBackSpec : ChangeSpec := { name := "bigBack", fn := fun _ => fun
  | [d1, d2, d3] => { results := [.lit (.bool true)], args := [d1, d2, d3] }
  | _ => none }
def bigBackRow : OpenClaim := { program := "ytefnlmiephombaa", sum := "4853482762e5de2b1be096c303a3372058cebef6fa7fe0a5e718098934481e4a", func := "scantling/scantlinglaw02.BigBack", spec := "bigBack", inPlace := ["math/bits.Add64", "math/bits.Sub64"], apart := false }
def BigBackSaid : Prop := bigBackRow.holds Try.pinned (OpenSpec.ofChange bigBackSpec)

/-- ITS FALSE NEIGHBOUR: 'it returns false'. Refute it at one input. -/
def bigBackWrong : ChangeSpec := { name := "bigBack", fn := fun _ => fun
  | [d1, d2, d3] => { results := [.lit (.bool false)], args := [d1, d2, d3] }
  | _ => none }
def BigBackWrongFalsely : Prop := bigBackRow.holds Try.pinned (OpenSpec.ofChange bigBackWrong)

/-- 'scantlinglaw02.BigOrder': WHATEVER THE INPUT: true; the input reads as it did. -/
def bigOrderSpec : ChangeSpec := { name := "bigOrder", fn := fun _ => fun
  | [d1, d2, d3] => { results := [.lit (.bool true)], args := [d1, d2, d3] }
  | _ => none }
def bigOrderRow : OpenClaim := { program := "ytefnlmiephombaa", sum := "4853482762e5de2b1be096c303a3372058cebef6fa7fe0a5e718098934481e4a", func := "scantling/scantlinglaw02.BigOrder", spec := "bigOrder", inPlace := ["math/bits.Sub64", "math/bits.Add64"], apart := false }
def BigOrderSaid : Prop := bigOrderRow.holds Try.pinned (OpenSpec.ofChange bigOrderSpec)

/-- ITS FALSE NEIGHBOUR: 'it returns false'. Refute it at one input. -/
def bigOrderWrong : ChangeSpec := { name := "bigOrder", fn := fun _ => fun
  | [d1, d2, d3] => { results := [.lit (.bool false)], args := [d1, d2, d3] }
  | _ => none }
def BigOrderWrongFalsely : Prop := bigOrderRow.holds Try.pinned (OpenSpec.ofChange bigOrderWrong)

/-- 'scantlinglaw02.BigHashes': WHATEVER THE INPUT: true; the input reads as it did. -/
def bigHashesSpec : ChangeSpec := { name := "bigHashes", fn := fun _ => fun
  | [d1, d2] => { results := [.lit (.bool true)], args := [d1, d2] }
  | _ => none }
def bigHashesRow : OpenClaim := { program := "ytefnlmiephombaa", sum := "4853482762e5de2b1be096c303a3372058cebef6fa7fe0a5e718098934481e4a", func := "scantling/scantlinglaw02.BigHashes", spec := "bigHashes", inPlace := ["math/bits.Add64", "math/bits.Sub64"], apart := false }
def BigHashesSaid : Prop := bigHashesRow.holds Try.pinned (OpenSpec.ofChange bigHashesSpec)

/-- ITS FALSE NEIGHBOUR: 'it returns false'. Refute it at one input. -/
def bigHashesWrong : ChangeSpec := { name := "bigHashes", fn := fun _ => fun
  | [d1, d2] => { results := [.lit (.bool false)], args := [d1, d2] }
  | _ => none }
def BigHashesWrongFalsely : Prop := bigHashesRow.holds Try.pinned (OpenSpec.ofChange bigHashesWrong)

/-- 'scantlinglaw03.TargetBits': WHATEVER THE INPUT: true; the input reads as it did. -/
def targetBitsSpec : ChangeSpec := { name := "targetBits", fn := fun _ => fun
  | [d1, d2] => { results := [.lit (.bool true)], args := [d1, d2] }
  | _ => none }
def targetBitsRow : OpenClaim := { program := "ytefnlmiephombaa", sum := "4853482762e5de2b1be096c303a3372058cebef6fa7fe0a5e718098934481e4a", func := "scantling/scantlinglaw03.TargetBits", spec := "targetBits", inPlace := ["math/bits.Add64", "math/bits.Sub64"], apart := false }
def TargetBitsSaid : Prop := targetBitsRow.holds Try.pinned (OpenSpec.ofChange targetBitsSpec)

/-- ITS FALSE NEIGHBOUR: 'it returns false'. Refute it at one input. -/
def targetBitsWrong : ChangeSpec := { name := "targetBits", fn := fun _ => fun
  | [d1, d2] => { results := [.lit (.bool false)], args := [d1, d2] }
  | _ => none }
def TargetBitsWrongFalsely : Prop := targetBitsRow.holds Try.pinned (OpenSpec.ofChange targetBitsWrong)

/-- 'scantlinglaw03.TargetEasy': WHATEVER THE INPUT: true; the input reads as it did. -/
def targetEasySpec : ChangeSpec := { name := "targetEasy", fn := fun _ => fun
  | [d1, d2] => { results := [.lit (.bool true)], args := [d1, d2] }
  | _ => none }
def targetEasyRow : OpenClaim := { program := "ytefnlmiephombaa", sum := "4853482762e5de2b1be096c303a3372058cebef6fa7fe0a5e718098934481e4a", func := "scantling/scantlinglaw03.TargetEasy", spec := "targetEasy", inPlace := ["math/bits.Add64", "math/bits.Sub64"], apart := false }
def TargetEasySaid : Prop := targetEasyRow.holds Try.pinned (OpenSpec.ofChange targetEasySpec)

/-- ITS FALSE NEIGHBOUR: 'it returns false'. Refute it at one input. -/
def targetEasyWrong : ChangeSpec := { name := "targetEasy", fn := fun _ => fun
  | [d1, d2] => { results := [.lit (.bool false)], args := [d1, d2] }
  | _ => none }
def TargetEasyWrongFalsely : Prop := targetEasyRow.holds Try.pinned (OpenSpec.ofChange targetEasyWrong)

/-- 'scantlinglaw03.TargetShort': WHATEVER THE INPUT: true; the input reads as it did. -/
def targetShortSpec : ChangeSpec := { name := "targetShort", fn := fun _ => fun
  | [d1, d2] => { results := [.lit (.bool true)], args := [d1, d2] }
  | _ => none }
def targetShortRow : OpenClaim := { program := "ytefnlmiephombaa", sum := "4853482762e5de2b1be096c303a3372058cebef6fa7fe0a5e718098934481e4a", func := "scantling/scantlinglaw03.TargetShort", spec := "targetShort", inPlace := ["math/bits.Add64", "math/bits.Sub64"], apart := false }
def TargetShortSaid : Prop := targetShortRow.holds Try.pinned (OpenSpec.ofChange targetShortSpec)

/-- ITS FALSE NEIGHBOUR: 'it returns false'. Refute it at one input. -/
def targetShortWrong : ChangeSpec := { name := "targetShort", fn := fun _ => fun
  | [d1, d2] => { results := [.lit (.bool false)], args := [d1, d2] }
  | _ => none }
def TargetShortWrongFalsely : Prop := targetShortRow.holds Try.pinned (OpenSpec.ofChange targetShortWrong)

/-- 'scantlinglaw03.TargetOrder': WHATEVER THE INPUT: true; the input reads as it did. -/
def targetOrderSpec : ChangeSpec := { name := "targetOrder", fn := fun _ => fun
  | [d1, d2, d3] => { results := [.lit (.bool true)], args := [d1, d2, d3] }
  | _ => none }
def targetOrderRow : OpenClaim := { program := "ytefnlmiephombaa", sum := "4853482762e5de2b1be096c303a3372058cebef6fa7fe0a5e718098934481e4a", func := "scantling/scantlinglaw03.TargetOrder", spec := "targetOrder", inPlace := ["math/bits.Add64", "math/bits.Sub64"], apart := false }
def TargetOrderSaid : Prop := targetOrderRow.holds Try.pinned (OpenSpec.ofChange targetOrderSpec)

/-- ITS FALSE NEIGHBOUR: 'it returns false'. Refute it at one input. -/
def targetOrderWrong : ChangeSpec := { name := "targetOrder", fn := fun _ => fun
  | [d1, d2, d3] => { results := [.lit (.bool false)], args := [d1, d2, d3] }
  | _ => none }
def TargetOrderWrongFalsely : Prop := targetOrderRow.holds Try.pinned (OpenSpec.ofChange targetOrderWrong)

/-- 'scantlinglaw03.TargetWorks': WHATEVER THE INPUT: true; the input reads as it did. -/
def targetWorksSpec : ChangeSpec := { name := "targetWorks", fn := fun _ => fun
  | [d1, d2, d3] => { results := [.lit (.bool true)], args := [d1, d2, d3] }
  | _ => none }
def targetWorksRow : OpenClaim := { program := "ytefnlmiephombaa", sum := "4853482762e5de2b1be096c303a3372058cebef6fa7fe0a5e718098934481e4a", func := "scantling/scantlinglaw03.TargetWorks", spec := "targetWorks", inPlace := ["math/bits.Add64", "math/bits.Sub64"], apart := false }
def TargetWorksSaid : Prop := targetWorksRow.holds Try.pinned (OpenSpec.ofChange targetWorksSpec)

/-- ITS FALSE NEIGHBOUR: 'it returns false'. Refute it at one input. -/
def targetWorksWrong : ChangeSpec := { name := "targetWorks", fn := fun _ => fun
  | [d1, d2, d3] => { results := [.lit (.bool false)], args := [d1, d2, d3] }
  | _ => none }
def TargetWorksWrongFalsely : Prop := targetWorksRow.holds Try.pinned (OpenSpec.ofChange targetWorksWrong)

/- THE SECOND FORM. 'bulk': how many values and letters a reading holds, each counted each time it is reached (what is shared counts as often as it is met; a slice's spare places count too). A statement '..UptoSaid' is the law's where the arguments, and the package variables that the reading takes, are together of bulk at most 1048576: NARROWER than '..Said'. Prove '..Said' where nothing that the law and all that it calls make is longer than what came in: it says more and counts as full. Else prove '..UptoSaid'. A law counts once. -/
mutual
def uptoBulk {H : Type} : DataW H → Nat
  | .lit (.string bytes) => bytes.length + 1
  | .lit _ => 1
  | .nil => 1
  | .ptr d => uptoBulk d + 1
  | .slice elems spare => uptoBulkAll elems + uptoBulkAll spare + 1
  | .agg parts => uptoBulkAll parts + 1
  | .iface _ d => uptoBulk d + 1
  | .map entries => uptoBulkEntries entries + 1
  | .held _ => 1
def uptoBulkAll {H : Type} : List (DataW H) → Nat
  | [] => 0
  | d :: r => uptoBulk d + uptoBulkAll r
def uptoBulkEntries {H : Type} : List (Lit × DataW H) → Nat
  | [] => 0
  | x :: r => uptoBulkEntry x + uptoBulkEntries r
def uptoBulkEntry {H : Type} : Lit × DataW H → Nat
  | (.string bytes, d) => bytes.length + uptoBulk d + 1
  | (_, d) => uptoBulk d + 1
 end
def uptoSmall : (H : Type) → List (DataW H) → Bool := fun _ ds => decide (uptoBulkAll ds ≤ 1048576)
def OpenSpec.upto (s : _root_.Go.ChangeSpec) : _root_.Go.OpenSpec := { _root_.Go.OpenSpec.ofChange s with cond := some uptoSmall }

/-- 'scantlinglaw02.BigParts', WHERE WHAT IT READS IS OF BULK AT MOST 1048576: true; the input reads as it did. -/
def bigPartsUptoRow : OpenClaim := { program := "ytefnlmiephombaa", sum := "4853482762e5de2b1be096c303a3372058cebef6fa7fe0a5e718098934481e4a", func := "scantling/scantlinglaw02.BigParts", spec := "bigParts", inPlace := ["math/bits.Sub64", "math/bits.Add64"], apart := false, narrowed := true }
def BigPartsUptoSaid : Prop := bigPartsUptoRow.holds Try.pinned (OpenSpec.upto bigPartsSpec)

/-- 'scantlinglaw02.BigMoves', WHERE WHAT IT READS IS OF BULK AT MOST 1048576: true; the input reads as it did. -/
def bigMovesUptoRow : OpenClaim := { program := "ytefnlmiephombaa", sum := "4853482762e5de2b1be096c303a3372058cebef6fa7fe0a5e718098934481e4a", func := "scantling/scantlinglaw02.BigMoves", spec := "bigMoves", inPlace := ["math/bits.Add64", "math/bits.Sub64"], apart := false, narrowed := true }
def BigMovesUptoSaid : Prop := bigMovesUptoRow.holds Try.pinned (OpenSpec.upto bigMovesSpec)

/-- 'scantlinglaw02.BigSums', WHERE WHAT IT READS IS OF BULK AT MOST 1048576: true; the input reads as it did. -/
def bigSumsUptoRow : OpenClaim := { program := "ytefnlmiephombaa", sum := "4853482762e5de2b1be096c303a3372058cebef6fa7fe0a5e718098934481e4a", func := "scantling/scantlinglaw02.BigSums", spec := "bigSums", inPlace := ["math/bits.Add64", "math/bits.Sub64"], apart := false, narrowed := true }
def BigSumsUptoSaid : Prop := bigSumsUptoRow.holds Try.pinned (OpenSpec.upto bigSumsSpec)

/-- 'scantlinglaw02.BigBack', WHERE WHAT IT READS IS OF BULK AT MOST 1048576: true; the input reads as it did. -/
def bigBackUptoRow : OpenClaim := { program := "ytefnlmiephombaa", sum := "4853482762e5de2b1be096c303a3372058cebef6fa7fe0a5e718098934481e4a", func := "scantling/scantlinglaw02.BigBack", spec := "bigBack", inPlace := ["math/bits.Add64", "math/bits.Sub64"], apart := false, narrowed := true }
def BigBackUptoSaid : Prop := bigBackUptoRow.holds Try.pinned (OpenSpec.upto bigBackSpec)

/-- 'scantlinglaw02.BigOrder', WHERE WHAT IT READS IS OF BULK AT MOST 1048576: true; the input reads as it did. -/
def bigOrderUptoRow : OpenClaim := { program := "ytefnlmiephombaa", sum := "4853482762e5de2b1be096c303a3372058cebef6fa7fe0a5e718098934481e4a", func := "scantling/scantlinglaw02.BigOrder", spec := "bigOrder", inPlace := ["math/bits.Sub64", "math/bits.Add64"], apart := false, narrowed := true }
def BigOrderUptoSaid : Prop := bigOrderUptoRow.holds Try.pinned (OpenSpec.upto bigOrderSpec)

/-- 'scantlinglaw02.BigHashes', WHERE WHAT IT READS IS OF BULK AT MOST 1048576: true; the input reads as it did. -/
def bigHashesUptoRow : OpenClaim := { program := "ytefnlmiephombaa", sum := "4853482762e5de2b1be096c303a3372058cebef6fa7fe0a5e718098934481e4a", func := "scantling/scantlinglaw02.BigHashes", spec := "bigHashes", inPlace := ["math/bits.Add64", "math/bits.Sub64"], apart := false, narrowed := true }
def BigHashesUptoSaid : Prop := bigHashesUptoRow.holds Try.pinned (OpenSpec.upto bigHashesSpec)

/-- 'scantlinglaw03.TargetBits', WHERE WHAT IT READS IS OF BULK AT MOST 1048576: true; the input reads as it did. -/
def targetBitsUptoRow : OpenClaim := { program := "ytefnlmiephombaa", sum := "4853482762e5de2b1be096c303a3372058cebef6fa7fe0a5e718098934481e4a", func := "scantling/scantlinglaw03.TargetBits", spec := "targetBits", inPlace := ["math/bits.Add64", "math/bits.Sub64"], apart := false, narrowed := true }
def TargetBitsUptoSaid : Prop := targetBitsUptoRow.holds Try.pinned (OpenSpec.upto targetBitsSpec)

/-- 'scantlinglaw03.TargetEasy', WHERE WHAT IT READS IS OF BULK AT MOST 1048576: true; the input reads as it did. -/
def targetEasyUptoRow : OpenClaim := { program := "ytefnlmiephombaa", sum := "4853482762e5de2b1be096c303a3372058cebef6fa7fe0a5e718098934481e4a", func := "scantling/scantlinglaw03.TargetEasy", spec := "targetEasy", inPlace := ["math/bits.Add64", "math/bits.Sub64"], apart := false, narrowed := true }
def TargetEasyUptoSaid : Prop := targetEasyUptoRow.holds Try.pinned (OpenSpec.upto targetEasySpec)

/-- 'scantlinglaw03.TargetShort', WHERE WHAT IT READS IS OF BULK AT MOST 1048576: true; the input reads as it did. -/
def targetShortUptoRow : OpenClaim := { program := "ytefnlmiephombaa", sum := "4853482762e5de2b1be096c303a3372058cebef6fa7fe0a5e718098934481e4a", func := "scantling/scantlinglaw03.TargetShort", spec := "targetShort", inPlace := ["math/bits.Add64", "math/bits.Sub64"], apart := false, narrowed := true }
def TargetShortUptoSaid : Prop := targetShortUptoRow.holds Try.pinned (OpenSpec.upto targetShortSpec)

/-- 'scantlinglaw03.TargetOrder', WHERE WHAT IT READS IS OF BULK AT MOST 1048576: true; the input reads as it did. -/
def targetOrderUptoRow : OpenClaim := { program := "ytefnlmiephombaa", sum := "4853482762e5de2b1be096c303a3372058cebef6fa7fe0a5e718098934481e4a", func := "scantling/scantlinglaw03.TargetOrder", spec := "targetOrder", inPlace := ["math/bits.Add64", "math/bits.Sub64"], apart := false, narrowed := true }
def TargetOrderUptoSaid : Prop := targetOrderUptoRow.holds Try.pinned (OpenSpec.upto targetOrderSpec)

/-- 'scantlinglaw03.TargetWorks', WHERE WHAT IT READS IS OF BULK AT MOST 1048576: true; the input reads as it did. -/
def targetWorksUptoRow : OpenClaim := { program := "ytefnlmiephombaa", sum := "4853482762e5de2b1be096c303a3372058cebef6fa7fe0a5e718098934481e4a", func := "scantling/scantlinglaw03.TargetWorks", spec := "targetWorks", inPlace := ["math/bits.Add64", "math/bits.Sub64"], apart := false, narrowed := true }
def TargetWorksUptoSaid : Prop := targetWorksUptoRow.holds Try.pinned (OpenSpec.upto targetWorksSpec)

end Rows
end Go.Proofs.Ytefnlmiephombaa
