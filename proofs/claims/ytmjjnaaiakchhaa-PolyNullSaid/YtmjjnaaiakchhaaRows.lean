/-
  No cell of these rows narrows 'for every input' (looked for: loops, veiled, ifaces, maps, wideKeys, modest, calm, conditions, laid).
  DERIVED. THE GIVEN ROWS OF THIS SEAT. 7 by the template 'for every input the law returns true; each argument reads behind the call as it read before'; 0 by the template 'total and deterministic' (their statements: YtmjjnaaiakchhaaTotals.lean).
  GIVEN WITH THE SEED: the statements are not yours to turn. If you find one false, say at which input.
  Laid BY PROGRAM, IN A SANDBOX (cutbox-rows.mjs): the forced cells as the released guide's own fill.sh prints them over the translation 936aa854c47fcd8f… (all of the seat's roots in one cut). By AI agents, Wed Nov 11 2026. No macro, syntax, notation, axiom, sorry.
-/
import Derived.Test.YtmjjnaaiakchhaaChecked
import GoSem.Claim
import GoSem.ClaimJoined
import GoSem.ClaimMapViews
import Derived.JoinedTies
import Derived.KernelRfl
namespace Go.Proofs.Ytmjjnaaiakchhaa
/- THE CELL 'sum', in the pinned program and in every row, IS THE sha256 OF THE DUMP (.gsa) THAT YtmjjnaaiakchhaaProg.lean LOADS. Nothing in Lean hashes anything: it is a label: what it is worth is what the hold of that sum in a sandbox is worth. -/
noncomputable def Try.pinned : Pinned := { name := "ytmjjnaaiakchhaa", sum := "936aa854c47fcd8f91a085798f030128561d0dd5be6493e0eb0f5984b73c35b1", checked := Try.checked }
namespace Rows
def none {H : Type} : Left H := { results := [], args := [] }

/-- 'intagliolaw02.ChachaQuarter': WHATEVER THE INPUT: true; the input reads as it did. -/
def chachaQuarterSpec : ChangeSpec := { name := "chachaQuarter", fn := fun _ => fun
  | [d] => { results := [.lit (.bool true)], args := [d] }
  | _ => none }
def chachaQuarterRow : OpenClaim := { program := "ytmjjnaaiakchhaa", sum := "936aa854c47fcd8f91a085798f030128561d0dd5be6493e0eb0f5984b73c35b1", func := "intaglio/intagliolaw02.ChachaQuarter", spec := "chachaQuarter", apart := false }
def ChachaQuarterSaid : Prop := chachaQuarterRow.holds Try.pinned (OpenSpec.ofChange chachaQuarterSpec)

/-- ITS FALSE NEIGHBOUR: 'it returns false'. Refute it at one input. -/
def chachaQuarterWrong : ChangeSpec := { name := "chachaQuarter", fn := fun _ => fun
  | [d] => { results := [.lit (.bool false)], args := [d] }
  | _ => none }
def ChachaQuarterWrongFalsely : Prop := chachaQuarterRow.holds Try.pinned (OpenSpec.ofChange chachaQuarterWrong)

/-- 'intagliolaw03.PolyMacs': WHATEVER THE INPUT: true; the input reads as it did. -/
def polyMacsSpec : ChangeSpec := { name := "polyMacs", fn := fun _ => fun
  | [d1, d2] => { results := [.lit (.bool true)], args := [d1, d2] }
  | _ => none }
def polyMacsRow : OpenClaim := { program := "ytmjjnaaiakchhaa", sum := "936aa854c47fcd8f91a085798f030128561d0dd5be6493e0eb0f5984b73c35b1", func := "intaglio/intagliolaw03.PolyMacs", spec := "polyMacs", inPlace := ["math/bits.Add64"], apart := false }
def PolyMacsSaid : Prop := polyMacsRow.holds Try.pinned (OpenSpec.ofChange polyMacsSpec)

/-- ITS FALSE NEIGHBOUR: 'it returns false'. Refute it at one input. -/
def polyMacsWrong : ChangeSpec := { name := "polyMacs", fn := fun _ => fun
  | [d1, d2] => { results := [.lit (.bool false)], args := [d1, d2] }
  | _ => none }
def PolyMacsWrongFalsely : Prop := polyMacsRow.holds Try.pinned (OpenSpec.ofChange polyMacsWrong)

/-- 'intagliolaw03.PolyPieces': WHATEVER THE INPUT: true; the input reads as it did. -/
def polyPiecesSpec : ChangeSpec := { name := "polyPieces", fn := fun _ => fun
  | [d1, d2, d3] => { results := [.lit (.bool true)], args := [d1, d2, d3] }
  | _ => none }
def polyPiecesRow : OpenClaim := { program := "ytmjjnaaiakchhaa", sum := "936aa854c47fcd8f91a085798f030128561d0dd5be6493e0eb0f5984b73c35b1", func := "intaglio/intagliolaw03.PolyPieces", spec := "polyPieces", inPlace := ["math/bits.Add64"], apart := false }
def PolyPiecesSaid : Prop := polyPiecesRow.holds Try.pinned (OpenSpec.ofChange polyPiecesSpec)

/-- ITS FALSE NEIGHBOUR: 'it returns false'. Refute it at one input. -/
def polyPiecesWrong : ChangeSpec := { name := "polyPieces", fn := fun _ => fun
  | [d1, d2, d3] => { results := [.lit (.bool false)], args := [d1, d2, d3] }
  | _ => none }
def PolyPiecesWrongFalsely : Prop := polyPiecesRow.holds Try.pinned (OpenSpec.ofChange polyPiecesWrong)

/-- 'intagliolaw03.PolyShift': WHATEVER THE INPUT: true; the input reads as it did. -/
def polyShiftSpec : ChangeSpec := { name := "polyShift", fn := fun _ => fun
  | [d1, d2] => { results := [.lit (.bool true)], args := [d1, d2] }
  | _ => none }
def polyShiftRow : OpenClaim := { program := "ytmjjnaaiakchhaa", sum := "936aa854c47fcd8f91a085798f030128561d0dd5be6493e0eb0f5984b73c35b1", func := "intaglio/intagliolaw03.PolyShift", spec := "polyShift", inPlace := ["math/bits.Add64"], apart := false }
def PolyShiftSaid : Prop := polyShiftRow.holds Try.pinned (OpenSpec.ofChange polyShiftSpec)

/-- ITS FALSE NEIGHBOUR: 'it returns false'. Refute it at one input. -/
def polyShiftWrong : ChangeSpec := { name := "polyShift", fn := fun _ => fun
  | [d1, d2] => { results := [.lit (.bool false)], args := [d1, d2] }
  | _ => none }
def PolyShiftWrongFalsely : Prop := polyShiftRow.holds Try.pinned (OpenSpec.ofChange polyShiftWrong)

/-- 'intagliolaw03.PolyClamp': WHATEVER THE INPUT: true; the input reads as it did. -/
def polyClampSpec : ChangeSpec := { name := "polyClamp", fn := fun _ => fun
  | [d1, d2, d3] => { results := [.lit (.bool true)], args := [d1, d2, d3] }
  | _ => none }
def polyClampRow : OpenClaim := { program := "ytmjjnaaiakchhaa", sum := "936aa854c47fcd8f91a085798f030128561d0dd5be6493e0eb0f5984b73c35b1", func := "intaglio/intagliolaw03.PolyClamp", spec := "polyClamp", inPlace := ["math/bits.Add64"], apart := false }
def PolyClampSaid : Prop := polyClampRow.holds Try.pinned (OpenSpec.ofChange polyClampSpec)

/-- ITS FALSE NEIGHBOUR: 'it returns false'. Refute it at one input. -/
def polyClampWrong : ChangeSpec := { name := "polyClamp", fn := fun _ => fun
  | [d1, d2, d3] => { results := [.lit (.bool false)], args := [d1, d2, d3] }
  | _ => none }
def PolyClampWrongFalsely : Prop := polyClampRow.holds Try.pinned (OpenSpec.ofChange polyClampWrong)

/-- 'intagliolaw03.PolyNull': WHATEVER THE INPUT: true; the input reads as it did. -/
def polyNullSpec : ChangeSpec := { name := "polyNull", fn := fun _ => fun
  | [d1, d2, d3] => { results := [.lit (.bool true)], args := [d1, d2, d3] }
  | _ => none }
def polyNullRow : OpenClaim := { program := "ytmjjnaaiakchhaa", sum := "936aa854c47fcd8f91a085798f030128561d0dd5be6493e0eb0f5984b73c35b1", func := "intaglio/intagliolaw03.PolyNull", spec := "polyNull", inPlace := ["math/bits.Add64"], apart := false }
def PolyNullSaid : Prop := polyNullRow.holds Try.pinned (OpenSpec.ofChange polyNullSpec)

/-- ITS FALSE NEIGHBOUR: 'it returns false'. Refute it at one input. -/
def polyNullWrong : ChangeSpec := { name := "polyNull", fn := fun _ => fun
  | [d1, d2, d3] => { results := [.lit (.bool false)], args := [d1, d2, d3] }
  | _ => none }
def PolyNullWrongFalsely : Prop := polyNullRow.holds Try.pinned (OpenSpec.ofChange polyNullWrong)

/-- 'intagliolaw03.PolySum': WHATEVER THE INPUT: true; the input reads as it did. -/
def polySumSpec : ChangeSpec := { name := "polySum", fn := fun _ => fun
  | [d1, d2] => { results := [.lit (.bool true)], args := [d1, d2] }
  | _ => none }
def polySumRow : OpenClaim := { program := "ytmjjnaaiakchhaa", sum := "936aa854c47fcd8f91a085798f030128561d0dd5be6493e0eb0f5984b73c35b1", func := "intaglio/intagliolaw03.PolySum", spec := "polySum", inPlace := ["math/bits.Add64"], apart := false }
def PolySumSaid : Prop := polySumRow.holds Try.pinned (OpenSpec.ofChange polySumSpec)

/-- ITS FALSE NEIGHBOUR: 'it returns false'. Refute it at one input. -/
def polySumWrong : ChangeSpec := { name := "polySum", fn := fun _ => fun
  | [d1, d2] => { results := [.lit (.bool false)], args := [d1, d2] }
  | _ => none }
def PolySumWrongFalsely : Prop := polySumRow.holds Try.pinned (OpenSpec.ofChange polySumWrong)

/- THE SECOND FORM. 'bulk': how many values and letters a reading holds, each counted each time it is reached (what is shared counts as often as it is met; a slice's spare places count too). A statement '..UptoSaid' is the law's where the arguments, and the package variables that the reading takes, are together of bulk at most 1048576: NARROWER than '..Said'. Prove '..Said' where nothing that the law and all that it calls make is longer than what came in: it says more and counts as full. Else prove '..UptoSaid'. A law counts once. -/
mutual
def uptoBulk {H : Type} : DataW H → Nat
  | .lit (.string bytes) => bytes.length + 1
  | .lit _ => 1
  | .nil => 1
  | .ptr d => uptoBulk d + 1
  | .slice elems spare => uptoBulkAll elems + uptoBulkAll spare + 1
  | .agg parts => uptoBulkAll parts + 1
  | .iface _ d => uptoBulk d + 1
  | .map entries => uptoBulkEntries entries + 1
  | .held _ => 1
def uptoBulkAll {H : Type} : List (DataW H) → Nat
  | [] => 0
  | d :: r => uptoBulk d + uptoBulkAll r
def uptoBulkEntries {H : Type} : List (Lit × DataW H) → Nat
  | [] => 0
  | x :: r => uptoBulkEntry x + uptoBulkEntries r
def uptoBulkEntry {H : Type} : Lit × DataW H → Nat
  | (.string bytes, d) => bytes.length + uptoBulk d + 1
  | (_, d) => uptoBulk d + 1
 end
def uptoSmall : (H : Type) → List (DataW H) → Bool := fun _ ds => decide (uptoBulkAll ds ≤ 1048576)
def OpenSpec.upto (s : _root_.Go.ChangeSpec) : _root_.Go.OpenSpec := { _root_.Go.OpenSpec.ofChange s with cond := some uptoSmall }

/-- 'intagliolaw02.ChachaQuarter', WHERE WHAT IT READS IS OF BULK AT MOST 1048576: true; the input reads as it did. -/
def chachaQuarterUptoRow : OpenClaim := { program := "ytmjjnaaiakchhaa", sum := "936aa854c47fcd8f91a085798f030128561d0dd5be6493e0eb0f5984b73c35b1", func := "intaglio/intagliolaw02.ChachaQuarter", spec := "chachaQuarter", apart := false, narrowed := true }
def ChachaQuarterUptoSaid : Prop := chachaQuarterUptoRow.holds Try.pinned (OpenSpec.upto chachaQuarterSpec)

/-- 'intagliolaw03.PolyMacs', WHERE WHAT IT READS IS OF BULK AT MOST 1048576: true; the input reads as it did. -/
def polyMacsUptoRow : OpenClaim := { program := "ytmjjnaaiakchhaa", sum := "936aa854c47fcd8f91a085798f030128561d0dd5be6493e0eb0f5984b73c35b1", func := "intaglio/intagliolaw03.PolyMacs", spec := "polyMacs", inPlace := ["math/bits.Add64"], apart := false, narrowed := true }
def PolyMacsUptoSaid : Prop := polyMacsUptoRow.holds Try.pinned (OpenSpec.upto polyMacsSpec)

/-- 'intagliolaw03.PolyPieces', WHERE WHAT IT READS IS OF BULK AT MOST 1048576: true; the input reads as it did. -/
def polyPiecesUptoRow : OpenClaim := { program := "ytmjjnaaiakchhaa", sum := "936aa854c47fcd8f91a085798f030128561d0dd5be6493e0eb0f5984b73c35b1", func := "intaglio/intagliolaw03.PolyPieces", spec := "polyPieces", inPlace := ["math/bits.Add64"], apart := false, narrowed := true }
def PolyPiecesUptoSaid : Prop := polyPiecesUptoRow.holds Try.pinned (OpenSpec.upto polyPiecesSpec)

/-- 'intagliolaw03.PolyShift', WHERE WHAT IT READS IS OF BULK AT MOST 1048576: true; the input reads as it did. -/
def polyShiftUptoRow : OpenClaim := { program := "ytmjjnaaiakchhaa", sum := "936aa854c47fcd8f91a085798f030128561d0dd5be6493e0eb0f5984b73c35b1", func := "intaglio/intagliolaw03.PolyShift", spec := "polyShift", inPlace := ["math/bits.Add64"], apart := false, narrowed := true }
def PolyShiftUptoSaid : Prop := polyShiftUptoRow.holds Try.pinned (OpenSpec.upto polyShiftSpec)

/-- 'intagliolaw03.PolyClamp', WHERE WHAT IT READS IS OF BULK AT MOST 1048576: true; the input reads as it did. -/
def polyClampUptoRow : OpenClaim := { program := "ytmjjnaaiakchhaa", sum := "936aa854c47fcd8f91a085798f030128561d0dd5be6493e0eb0f5984b73c35b1", func := "intaglio/intagliolaw03.PolyClamp", spec := "polyClamp", inPlace := ["math/bits.Add64"], apart := false, narrowed := true }
def PolyClampUptoSaid : Prop := polyClampUptoRow.holds Try.pinned (OpenSpec.upto polyClampSpec)

/-- 'intagliolaw03.PolyNull', WHERE WHAT IT READS IS OF BULK AT MOST 1048576: true; the input reads as it did. -/
def polyNullUptoRow : OpenClaim := { program := "ytmjjnaaiakchhaa", sum := "936aa854c47fcd8f91a085798f030128561d0dd5be6493e0eb0f5984b73c35b1", func := "intaglio/intagliolaw03.PolyNull", spec := "polyNull", inPlace := ["math/bits.Add64"], apart := false, narrowed := true }
def PolyNullUptoSaid : Prop := polyNullUptoRow.holds Try.pinned (OpenSpec.upto polyNullSpec)

/-- 'intagliolaw03.PolySum', WHERE WHAT IT READS IS OF BULK AT MOST 1048576: true; the input reads as it did. -/
def polySumUptoRow : OpenClaim := { program := "ytmjjnaaiakchhaa", sum := "936aa854c47fcd8f91a085798f030128561d0dd5be6493e0eb0f5984b73c35b1", func := "intaglio/intagliolaw03.PolySum", spec := "polySum", inPlace := ["math/bits.Add64"], apart := false, narrowed := true }
def PolySumUptoSaid : Prop := polySumUptoRow.holds Try.pinned (OpenSpec.upto polySumSpec)

end Rows
end Go.Proofs.Ytmjjnaaiakchhaa
