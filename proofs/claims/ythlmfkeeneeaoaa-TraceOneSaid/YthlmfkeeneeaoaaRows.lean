/-
  No cell of these rows narrows 'for every input' (looked for: loops, veiled, ifaces, maps, wideKeys, modest, calm, conditions, laid).
  DERIVED. THE GIVEN ROWS OF THIS SEAT. 6 by the template 'for every input the law returns true; each argument reads behind the call as it read before'; 0 by the template 'total and deterministic' (their statements: YthlmfkeeneeaoaaTotals.lean).
  GIVEN WITH THE SEED: the statements are not yours to turn. If you find one false, say at which input.
  Laid BY PROGRAM, IN A SANDBOX (cutbox-rows.mjs): the forced cells as the released guide's own fill.sh prints them over the translation 70e9fdcdfa525b54… (all of the seat's roots in one cut). By AI agents, Wed Nov 11 2026. No macro, syntax, notation, axiom, sorry.
-/
import Derived.Test.YthlmfkeeneeaoaaChecked
import GoSem.Claim
import GoSem.ClaimJoined
import GoSem.ClaimMapViews
import Derived.JoinedTies
import Derived.KernelRfl
namespace Go.Proofs.Ythlmfkeeneeaoaa
/- THE CELL 'sum', in the pinned program and in every row, IS THE sha256 OF THE DUMP (.gsa) THAT YthlmfkeeneeaoaaProg.lean LOADS. Nothing in Lean hashes anything: it is a label: what it is worth is what the hold of that sum in a sandbox is worth. -/
noncomputable def Try.pinned : Pinned := { name := "ythlmfkeeneeaoaa", sum := "70e9fdcdfa525b5412f85e8c1e663510746efda18b90c338559d7d7a91fcf1a7", checked := Try.checked }
namespace Rows
def none {H : Type} : Left H := { results := [], args := [] }

/-- 'mainsheetlaw23.TraceAdds': WHATEVER THE INPUT: true; the input reads as it did. -/
def traceAddsSpec : ChangeSpec := { name := "traceAdds", fn := fun _ => fun
  | [d1, d2, d3] => { results := [.lit (.bool true)], args := [d1, d2, d3] }
  | _ => none }
def traceAddsRow : OpenClaim := { program := "ythlmfkeeneeaoaa", sum := "70e9fdcdfa525b5412f85e8c1e663510746efda18b90c338559d7d7a91fcf1a7", func := "mainsheet/mainsheetlaw23.TraceAdds", spec := "traceAdds", unfollowed := true, recurses := true, apart := false }
def TraceAddsSaid : Prop := traceAddsRow.holds Try.pinned (OpenSpec.ofChange traceAddsSpec)

/-- ITS FALSE NEIGHBOUR: 'it returns false'. Refute it at one input. -/
def traceAddsWrong : ChangeSpec := { name := "traceAdds", fn := fun _ => fun
  | [d1, d2, d3] => { results := [.lit (.bool false)], args := [d1, d2, d3] }
  | _ => none }
def TraceAddsWrongFalsely : Prop := traceAddsRow.holds Try.pinned (OpenSpec.ofChange traceAddsWrong)

/-- 'mainsheetlaw23.TraceSums': WHATEVER THE INPUT: true; the input reads as it did. -/
def traceSumsSpec : ChangeSpec := { name := "traceSums", fn := fun _ => fun
  | [d1, d2] => { results := [.lit (.bool true)], args := [d1, d2] }
  | _ => none }
def traceSumsRow : OpenClaim := { program := "ythlmfkeeneeaoaa", sum := "70e9fdcdfa525b5412f85e8c1e663510746efda18b90c338559d7d7a91fcf1a7", func := "mainsheet/mainsheetlaw23.TraceSums", spec := "traceSums", unfollowed := true, recurses := true, apart := false }
def TraceSumsSaid : Prop := traceSumsRow.holds Try.pinned (OpenSpec.ofChange traceSumsSpec)

/-- ITS FALSE NEIGHBOUR: 'it returns false'. Refute it at one input. -/
def traceSumsWrong : ChangeSpec := { name := "traceSums", fn := fun _ => fun
  | [d1, d2] => { results := [.lit (.bool false)], args := [d1, d2] }
  | _ => none }
def TraceSumsWrongFalsely : Prop := traceSumsRow.holds Try.pinned (OpenSpec.ofChange traceSumsWrong)

/-- 'mainsheetlaw23.TraceGrows': WHATEVER THE INPUT: true; the input reads as it did. -/
def traceGrowsSpec : ChangeSpec := { name := "traceGrows", fn := fun _ => fun
  | [d] => { results := [.lit (.bool true)], args := [d] }
  | _ => none }
def traceGrowsRow : OpenClaim := { program := "ythlmfkeeneeaoaa", sum := "70e9fdcdfa525b5412f85e8c1e663510746efda18b90c338559d7d7a91fcf1a7", func := "mainsheet/mainsheetlaw23.TraceGrows", spec := "traceGrows", unfollowed := true, recurses := true, apart := false }
def TraceGrowsSaid : Prop := traceGrowsRow.holds Try.pinned (OpenSpec.ofChange traceGrowsSpec)

/-- ITS FALSE NEIGHBOUR: 'it returns false'. Refute it at one input. -/
def traceGrowsWrong : ChangeSpec := { name := "traceGrows", fn := fun _ => fun
  | [d] => { results := [.lit (.bool false)], args := [d] }
  | _ => none }
def TraceGrowsWrongFalsely : Prop := traceGrowsRow.holds Try.pinned (OpenSpec.ofChange traceGrowsWrong)

/-- 'mainsheetlaw23.TraceTells': WHATEVER THE INPUT: true; the input reads as it did. -/
def traceTellsSpec : ChangeSpec := { name := "traceTells", fn := fun _ => fun
  | [d1, d2, d3] => { results := [.lit (.bool true)], args := [d1, d2, d3] }
  | _ => none }
def traceTellsRow : OpenClaim := { program := "ythlmfkeeneeaoaa", sum := "70e9fdcdfa525b5412f85e8c1e663510746efda18b90c338559d7d7a91fcf1a7", func := "mainsheet/mainsheetlaw23.TraceTells", spec := "traceTells", unfollowed := true, recurses := true, apart := false }
def TraceTellsSaid : Prop := traceTellsRow.holds Try.pinned (OpenSpec.ofChange traceTellsSpec)

/-- ITS FALSE NEIGHBOUR: 'it returns false'. Refute it at one input. -/
def traceTellsWrong : ChangeSpec := { name := "traceTells", fn := fun _ => fun
  | [d1, d2, d3] => { results := [.lit (.bool false)], args := [d1, d2, d3] }
  | _ => none }
def TraceTellsWrongFalsely : Prop := traceTellsRow.holds Try.pinned (OpenSpec.ofChange traceTellsWrong)

/-- 'mainsheetlaw23.TraceOne': WHATEVER THE INPUT: true; the input reads as it did. -/
def traceOneSpec : ChangeSpec := { name := "traceOne", fn := fun _ => fun
  | [d1, d2, d3] => { results := [.lit (.bool true)], args := [d1, d2, d3] }
  | _ => none }
def traceOneRow : OpenClaim := { program := "ythlmfkeeneeaoaa", sum := "70e9fdcdfa525b5412f85e8c1e663510746efda18b90c338559d7d7a91fcf1a7", func := "mainsheet/mainsheetlaw23.TraceOne", spec := "traceOne", unfollowed := true, recurses := true, apart := false }
def TraceOneSaid : Prop := traceOneRow.holds Try.pinned (OpenSpec.ofChange traceOneSpec)

/-- ITS FALSE NEIGHBOUR: 'it returns false'. Refute it at one input. -/
def traceOneWrong : ChangeSpec := { name := "traceOne", fn := fun _ => fun
  | [d1, d2, d3] => { results := [.lit (.bool false)], args := [d1, d2, d3] }
  | _ => none }
def TraceOneWrongFalsely : Prop := traceOneRow.holds Try.pinned (OpenSpec.ofChange traceOneWrong)

/-- 'mainsheetlaw23.TraceSpans': WHATEVER THE INPUT: true; the input reads as it did. -/
def traceSpansSpec : ChangeSpec := { name := "traceSpans", fn := fun _ => fun
  | [d1, d2, d3] => { results := [.lit (.bool true)], args := [d1, d2, d3] }
  | _ => none }
def traceSpansRow : OpenClaim := { program := "ythlmfkeeneeaoaa", sum := "70e9fdcdfa525b5412f85e8c1e663510746efda18b90c338559d7d7a91fcf1a7", func := "mainsheet/mainsheetlaw23.TraceSpans", spec := "traceSpans", unfollowed := true, recurses := true, apart := false }
def TraceSpansSaid : Prop := traceSpansRow.holds Try.pinned (OpenSpec.ofChange traceSpansSpec)

/-- ITS FALSE NEIGHBOUR: 'it returns false'. Refute it at one input. -/
def traceSpansWrong : ChangeSpec := { name := "traceSpans", fn := fun _ => fun
  | [d1, d2, d3] => { results := [.lit (.bool false)], args := [d1, d2, d3] }
  | _ => none }
def TraceSpansWrongFalsely : Prop := traceSpansRow.holds Try.pinned (OpenSpec.ofChange traceSpansWrong)

/- THE SECOND FORM. 'bulk': how many values and letters a reading holds, each counted each time it is reached (what is shared counts as often as it is met; a slice's spare places count too). A statement '..UptoSaid' is the law's where the arguments, and the package variables that the reading takes, are together of bulk at most 1048576: NARROWER than '..Said'. Prove '..Said' where nothing that the law and all that it calls make is longer than what came in: it says more and counts as full. Else prove '..UptoSaid'. A law counts once. -/
mutual
def uptoBulk {H : Type} : DataW H → Nat
  | .lit (.string bytes) => bytes.length + 1
  | .lit _ => 1
  | .nil => 1
  | .ptr d => uptoBulk d + 1
  | .slice elems spare => uptoBulkAll elems + uptoBulkAll spare + 1
  | .agg parts => uptoBulkAll parts + 1
  | .iface _ d => uptoBulk d + 1
  | .map entries => uptoBulkEntries entries + 1
  | .held _ => 1
def uptoBulkAll {H : Type} : List (DataW H) → Nat
  | [] => 0
  | d :: r => uptoBulk d + uptoBulkAll r
def uptoBulkEntries {H : Type} : List (Lit × DataW H) → Nat
  | [] => 0
  | x :: r => uptoBulkEntry x + uptoBulkEntries r
def uptoBulkEntry {H : Type} : Lit × DataW H → Nat
  | (.string bytes, d) => bytes.length + uptoBulk d + 1
  | (_, d) => uptoBulk d + 1
 end
def uptoSmall : (H : Type) → List (DataW H) → Bool := fun _ ds => decide (uptoBulkAll ds ≤ 1048576)
def OpenSpec.upto (s : _root_.Go.ChangeSpec) : _root_.Go.OpenSpec := { _root_.Go.OpenSpec.ofChange s with cond := some uptoSmall }

/-- 'mainsheetlaw23.TraceAdds', WHERE WHAT IT READS IS OF BULK AT MOST 1048576: true; the input reads as it did. -/
def traceAddsUptoRow : OpenClaim := { program := "ythlmfkeeneeaoaa", sum := "70e9fdcdfa525b5412f85e8c1e663510746efda18b90c338559d7d7a91fcf1a7", func := "mainsheet/mainsheetlaw23.TraceAdds", spec := "traceAdds", unfollowed := true, recurses := true, apart := false, narrowed := true }
def TraceAddsUptoSaid : Prop := traceAddsUptoRow.holds Try.pinned (OpenSpec.upto traceAddsSpec)

/-- 'mainsheetlaw23.TraceSums', WHERE WHAT IT READS IS OF BULK AT MOST 1048576: true; the input reads as it did. -/
def traceSumsUptoRow : OpenClaim := { program := "ythlmfkeeneeaoaa", sum := "70e9fdcdfa525b5412f85e8c1e663510746efda18b90c338559d7d7a91fcf1a7", func := "mainsheet/mainsheetlaw23.TraceSums", spec := "traceSums", unfollowed := true, recurses := true, apart := false, narrowed := true }
def TraceSumsUptoSaid : Prop := traceSumsUptoRow.holds Try.pinned (OpenSpec.upto traceSumsSpec)

/-- 'mainsheetlaw23.TraceGrows', WHERE WHAT IT READS IS OF BULK AT MOST 1048576: true; the input reads as it did. -/
def traceGrowsUptoRow : OpenClaim := { program := "ythlmfkeeneeaoaa", sum := "70e9fdcdfa525b5412f85e8c1e663510746efda18b90c338559d7d7a91fcf1a7", func := "mainsheet/mainsheetlaw23.TraceGrows", spec := "traceGrows", unfollowed := true, recurses := true, apart := false, narrowed := true }
def TraceGrowsUptoSaid : Prop := traceGrowsUptoRow.holds Try.pinned (OpenSpec.upto traceGrowsSpec)

/-- 'mainsheetlaw23.TraceTells', WHERE WHAT IT READS IS OF BULK AT MOST 1048576: true; the input reads as it did. -/
def traceTellsUptoRow : OpenClaim := { program := "ythlmfkeeneeaoaa", sum := "70e9fdcdfa525b5412f85e8c1e663510746efda18b90c338559d7d7a91fcf1a7", func := "mainsheet/mainsheetlaw23.TraceTells", spec := "traceTells", unfollowed := true, recurses := true, apart := false, narrowed := true }
def TraceTellsUptoSaid : Prop := traceTellsUptoRow.holds Try.pinned (OpenSpec.upto traceTellsSpec)

/-- 'mainsheetlaw23.TraceOne', WHERE WHAT IT READS IS OF BULK AT MOST 1048576: true; the input reads as it did. -/
def traceOneUptoRow : OpenClaim := { program := "ythlmfkeeneeaoaa", sum := "70e9fdcdfa525b5412f85e8c1e663510746efda18b90c338559d7d7a91fcf1a7", func := "mainsheet/mainsheetlaw23.TraceOne", spec := "traceOne", unfollowed := true, recurses := true, apart := false, narrowed := true }
def TraceOneUptoSaid : Prop := traceOneUptoRow.holds Try.pinned (OpenSpec.upto traceOneSpec)

/-- 'mainsheetlaw23.TraceSpans', WHERE WHAT IT READS IS OF BULK AT MOST 1048576: true; the input reads as it did. -/
def traceSpansUptoRow : OpenClaim := { program := "ythlmfkeeneeaoaa", sum := "70e9fdcdfa525b5412f85e8c1e663510746efda18b90c338559d7d7a91fcf1a7", func := "mainsheet/mainsheetlaw23.TraceSpans", spec := "traceSpans", unfollowed := true, recurses := true, apart := false, narrowed := true }
def TraceSpansUptoSaid : Prop := traceSpansUptoRow.holds Try.pinned (OpenSpec.upto traceSpansSpec)

end Rows
end Go.Proofs.Ythlmfkeeneeaoaa
