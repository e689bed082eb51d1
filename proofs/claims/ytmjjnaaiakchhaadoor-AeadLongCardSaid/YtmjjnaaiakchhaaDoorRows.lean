/-
  NARROWER THAN 'FOR EVERY INPUT', by the rows' own cells (each row's printed sentence says how): ChachaBlock: laid · ChachaStreams: laid · ChachaEnds: laid · ChachaTwice: laid · ChachaPieces: laid · ChachaXor: laid · AeadMarks: laid · AeadSame: laid · AeadLong: laid · AeadOpens: laid · AeadBack: laid · AeadSeals: laid.
  DERIVED. THE GIVEN ROWS OF THIS SEAT. 12 by the template 'for every input the law returns true; each argument reads behind the call as it read before'; 0 by the template 'total and deterministic' (their statements: YtmjjnaaiakchhaaDoorTotals.lean).
  GIVEN WITH THE SEED: the statements are not yours to turn. If you find one false, say at which input.
  Laid BY PROGRAM, IN A SANDBOX (cutbox-rows.mjs): the forced cells as the released guide's own fill.sh prints them over the translation 31cc65a64bc77bab… (all of the seat's roots in one cut). By AI agents, Wed Nov 11 2026. No macro, syntax, notation, axiom, sorry.
-/
import Derived.Test.YtmjjnaaiakchhaaDoorChecked
import GoSem.Claim
import GoSem.ClaimJoined
import GoSem.ClaimMapViews
import Derived.JoinedTies
import Derived.KernelRfl
namespace Go.Proofs.YtmjjnaaiakchhaaDoor
/- THE CELL 'sum', in the pinned program and in every row, IS THE sha256 OF THE DUMP (.gsa) THAT YtmjjnaaiakchhaaDoorProg.lean LOADS. Nothing in Lean hashes anything: it is a label: what it is worth is what the hold of that sum in a sandbox is worth. -/
noncomputable def Tryd.pinned : Pinned := { name := "ytmjjnaaiakchhaadoor", sum := "31cc65a64bc77bab8270d6ef661cf3cd78c91e92487133e2a2d0585c48d395f0", checked := Tryd.checked }
namespace Rows
def none {H : Type} : Left H := { results := [], args := [] }

/- WHAT THE LISTED PACKAGE-LEVEL VARIABLES READ AS WHEN THE CALL BEGINS. Each datum BY PROGRAM (the guide's laid-datum.mjs) off the statement by which the dump's own 'gosem.cut.vars' lays the variable. In a bare row this is a premise. The card (YtmjjnaaiakchhaaDoorCards.lean) ties it to the program's text. -/
def laid_intaglio_chacha_rows {H : Type} : DataW H := .agg [.agg [.lit (.int .i64 0), .lit (.int .i64 4), .lit (.int .i64 8), .lit (.int .i64 12)], .agg [.lit (.int .i64 1), .lit (.int .i64 5), .lit (.int .i64 9), .lit (.int .i64 13)], .agg [.lit (.int .i64 2), .lit (.int .i64 6), .lit (.int .i64 10), .lit (.int .i64 14)], .agg [.lit (.int .i64 3), .lit (.int .i64 7), .lit (.int .i64 11), .lit (.int .i64 15)], .agg [.lit (.int .i64 0), .lit (.int .i64 5), .lit (.int .i64 10), .lit (.int .i64 15)], .agg [.lit (.int .i64 1), .lit (.int .i64 6), .lit (.int .i64 11), .lit (.int .i64 12)], .agg [.lit (.int .i64 2), .lit (.int .i64 7), .lit (.int .i64 8), .lit (.int .i64 13)], .agg [.lit (.int .i64 3), .lit (.int .i64 4), .lit (.int .i64 9), .lit (.int .i64 14)]]

/-- 'intagliolaw02.ChachaBlock': WHATEVER THE INPUT: true; the input reads as it did. -/
def chachaBlockSpec : ChangeSpec := { name := "chachaBlock", fn := fun _ => fun
  | [d] => { results := [.lit (.bool true)], args := [d] }
  | _ => none }
def chachaBlockRow : OpenClaim := { program := "ytmjjnaaiakchhaadoor", sum := "31cc65a64bc77bab8270d6ef661cf3cd78c91e92487133e2a2d0585c48d395f0", func := "intaglio/intagliolaw02.ChachaBlock", spec := "chachaBlock", named := ["intaglio/chacha.rows"], apart := false, laid := [("intaglio/chacha.rows", laid_intaglio_chacha_rows)] }
def ChachaBlockSaid : Prop := chachaBlockRow.holds Tryd.pinned (OpenSpec.ofChange chachaBlockSpec)

/-- ITS FALSE NEIGHBOUR: 'it returns false'. Refute it at one input. -/
def chachaBlockWrong : ChangeSpec := { name := "chachaBlock", fn := fun _ => fun
  | [d] => { results := [.lit (.bool false)], args := [d] }
  | _ => none }
def ChachaBlockWrongFalsely : Prop := chachaBlockRow.holds Tryd.pinned (OpenSpec.ofChange chachaBlockWrong)

/-- 'intagliolaw02.ChachaStreams': WHATEVER THE INPUT: true; the input reads as it did. -/
def chachaStreamsSpec : ChangeSpec := { name := "chachaStreams", fn := fun _ => fun
  | [d1, d2] => { results := [.lit (.bool true)], args := [d1, d2] }
  | _ => none }
def chachaStreamsRow : OpenClaim := { program := "ytmjjnaaiakchhaadoor", sum := "31cc65a64bc77bab8270d6ef661cf3cd78c91e92487133e2a2d0585c48d395f0", func := "intaglio/intagliolaw02.ChachaStreams", spec := "chachaStreams", named := ["intaglio/chacha.rows"], apart := false, laid := [("intaglio/chacha.rows", laid_intaglio_chacha_rows)] }
def ChachaStreamsSaid : Prop := chachaStreamsRow.holds Tryd.pinned (OpenSpec.ofChange chachaStreamsSpec)

/-- ITS FALSE NEIGHBOUR: 'it returns false'. Refute it at one input. -/
def chachaStreamsWrong : ChangeSpec := { name := "chachaStreams", fn := fun _ => fun
  | [d1, d2] => { results := [.lit (.bool false)], args := [d1, d2] }
  | _ => none }
def ChachaStreamsWrongFalsely : Prop := chachaStreamsRow.holds Tryd.pinned (OpenSpec.ofChange chachaStreamsWrong)

/-- 'intagliolaw02.ChachaEnds': WHATEVER THE INPUT: true; the input reads as it did. -/
def chachaEndsSpec : ChangeSpec := { name := "chachaEnds", fn := fun _ => fun
  | [d1, d2] => { results := [.lit (.bool true)], args := [d1, d2] }
  | _ => none }
def chachaEndsRow : OpenClaim := { program := "ytmjjnaaiakchhaadoor", sum := "31cc65a64bc77bab8270d6ef661cf3cd78c91e92487133e2a2d0585c48d395f0", func := "intaglio/intagliolaw02.ChachaEnds", spec := "chachaEnds", named := ["intaglio/chacha.rows"], apart := false, laid := [("intaglio/chacha.rows", laid_intaglio_chacha_rows)] }
def ChachaEndsSaid : Prop := chachaEndsRow.holds Tryd.pinned (OpenSpec.ofChange chachaEndsSpec)

/-- ITS FALSE NEIGHBOUR: 'it returns false'. Refute it at one input. -/
def chachaEndsWrong : ChangeSpec := { name := "chachaEnds", fn := fun _ => fun
  | [d1, d2] => { results := [.lit (.bool false)], args := [d1, d2] }
  | _ => none }
def ChachaEndsWrongFalsely : Prop := chachaEndsRow.holds Tryd.pinned (OpenSpec.ofChange chachaEndsWrong)

/-- 'intagliolaw02.ChachaTwice': WHATEVER THE INPUT: true; the input reads as it did. -/
def chachaTwiceSpec : ChangeSpec := { name := "chachaTwice", fn := fun _ => fun
  | [d1, d2] => { results := [.lit (.bool true)], args := [d1, d2] }
  | _ => none }
def chachaTwiceRow : OpenClaim := { program := "ytmjjnaaiakchhaadoor", sum := "31cc65a64bc77bab8270d6ef661cf3cd78c91e92487133e2a2d0585c48d395f0", func := "intaglio/intagliolaw02.ChachaTwice", spec := "chachaTwice", named := ["intaglio/chacha.rows"], apart := false, laid := [("intaglio/chacha.rows", laid_intaglio_chacha_rows)] }
def ChachaTwiceSaid : Prop := chachaTwiceRow.holds Tryd.pinned (OpenSpec.ofChange chachaTwiceSpec)

/-- ITS FALSE NEIGHBOUR: 'it returns false'. Refute it at one input. -/
def chachaTwiceWrong : ChangeSpec := { name := "chachaTwice", fn := fun _ => fun
  | [d1, d2] => { results := [.lit (.bool false)], args := [d1, d2] }
  | _ => none }
def ChachaTwiceWrongFalsely : Prop := chachaTwiceRow.holds Tryd.pinned (OpenSpec.ofChange chachaTwiceWrong)

/-- 'intagliolaw02.ChachaPieces': WHATEVER THE INPUT: true; the input reads as it did. -/
def chachaPiecesSpec : ChangeSpec := { name := "chachaPieces", fn := fun _ => fun
  | [d1, d2, d3] => { results := [.lit (.bool true)], args := [d1, d2, d3] }
  | _ => none }
def chachaPiecesRow : OpenClaim := { program := "ytmjjnaaiakchhaadoor", sum := "31cc65a64bc77bab8270d6ef661cf3cd78c91e92487133e2a2d0585c48d395f0", func := "intaglio/intagliolaw02.ChachaPieces", spec := "chachaPieces", named := ["intaglio/chacha.rows"], apart := false, laid := [("intaglio/chacha.rows", laid_intaglio_chacha_rows)] }
def ChachaPiecesSaid : Prop := chachaPiecesRow.holds Tryd.pinned (OpenSpec.ofChange chachaPiecesSpec)

/-- ITS FALSE NEIGHBOUR: 'it returns false'. Refute it at one input. -/
def chachaPiecesWrong : ChangeSpec := { name := "chachaPieces", fn := fun _ => fun
  | [d1, d2, d3] => { results := [.lit (.bool false)], args := [d1, d2, d3] }
  | _ => none }
def ChachaPiecesWrongFalsely : Prop := chachaPiecesRow.holds Tryd.pinned (OpenSpec.ofChange chachaPiecesWrong)

/-- 'intagliolaw02.ChachaXor': WHATEVER THE INPUT: true; the input reads as it did. -/
def chachaXorSpec : ChangeSpec := { name := "chachaXor", fn := fun _ => fun
  | [d1, d2] => { results := [.lit (.bool true)], args := [d1, d2] }
  | _ => none }
def chachaXorRow : OpenClaim := { program := "ytmjjnaaiakchhaadoor", sum := "31cc65a64bc77bab8270d6ef661cf3cd78c91e92487133e2a2d0585c48d395f0", func := "intaglio/intagliolaw02.ChachaXor", spec := "chachaXor", named := ["intaglio/chacha.rows"], apart := false, laid := [("intaglio/chacha.rows", laid_intaglio_chacha_rows)] }
def ChachaXorSaid : Prop := chachaXorRow.holds Tryd.pinned (OpenSpec.ofChange chachaXorSpec)

/-- ITS FALSE NEIGHBOUR: 'it returns false'. Refute it at one input. -/
def chachaXorWrong : ChangeSpec := { name := "chachaXor", fn := fun _ => fun
  | [d1, d2] => { results := [.lit (.bool false)], args := [d1, d2] }
  | _ => none }
def ChachaXorWrongFalsely : Prop := chachaXorRow.holds Tryd.pinned (OpenSpec.ofChange chachaXorWrong)

/-- 'intagliolaw04.AeadMarks': WHATEVER THE INPUT: true; the input reads as it did. -/
def aeadMarksSpec : ChangeSpec := { name := "aeadMarks", fn := fun _ => fun
  | [d1, d2] => { results := [.lit (.bool true)], args := [d1, d2] }
  | _ => none }
def aeadMarksRow : OpenClaim := { program := "ytmjjnaaiakchhaadoor", sum := "31cc65a64bc77bab8270d6ef661cf3cd78c91e92487133e2a2d0585c48d395f0", func := "intaglio/intagliolaw04.AeadMarks", spec := "aeadMarks", inPlace := ["math/bits.Add64"], named := ["intaglio/chacha.rows"], apart := false, laid := [("intaglio/chacha.rows", laid_intaglio_chacha_rows)] }
def AeadMarksSaid : Prop := aeadMarksRow.holds Tryd.pinned (OpenSpec.ofChange aeadMarksSpec)

/-- ITS FALSE NEIGHBOUR: 'it returns false'. Refute it at one input. -/
def aeadMarksWrong : ChangeSpec := { name := "aeadMarks", fn := fun _ => fun
  | [d1, d2] => { results := [.lit (.bool false)], args := [d1, d2] }
  | _ => none }
def AeadMarksWrongFalsely : Prop := aeadMarksRow.holds Tryd.pinned (OpenSpec.ofChange aeadMarksWrong)

/-- 'intagliolaw04.AeadSame': WHATEVER THE INPUT: true; the input reads as it did. -/
def aeadSameSpec : ChangeSpec := { name := "aeadSame", fn := fun _ => fun
  | [d1, d2] => { results := [.lit (.bool true)], args := [d1, d2] }
  | _ => none }
def aeadSameRow : OpenClaim := { program := "ytmjjnaaiakchhaadoor", sum := "31cc65a64bc77bab8270d6ef661cf3cd78c91e92487133e2a2d0585c48d395f0", func := "intaglio/intagliolaw04.AeadSame", spec := "aeadSame", inPlace := ["math/bits.Add64"], named := ["intaglio/chacha.rows"], apart := false, laid := [("intaglio/chacha.rows", laid_intaglio_chacha_rows)] }
def AeadSameSaid : Prop := aeadSameRow.holds Tryd.pinned (OpenSpec.ofChange aeadSameSpec)

/-- ITS FALSE NEIGHBOUR: 'it returns false'. Refute it at one input. -/
def aeadSameWrong : ChangeSpec := { name := "aeadSame", fn := fun _ => fun
  | [d1, d2] => { results := [.lit (.bool false)], args := [d1, d2] }
  | _ => none }
def AeadSameWrongFalsely : Prop := aeadSameRow.holds Tryd.pinned (OpenSpec.ofChange aeadSameWrong)

/-- 'intagliolaw04.AeadLong': WHATEVER THE INPUT: true; the input reads as it did. -/
def aeadLongSpec : ChangeSpec := { name := "aeadLong", fn := fun _ => fun
  | [d1, d2] => { results := [.lit (.bool true)], args := [d1, d2] }
  | _ => none }
def aeadLongRow : OpenClaim := { program := "ytmjjnaaiakchhaadoor", sum := "31cc65a64bc77bab8270d6ef661cf3cd78c91e92487133e2a2d0585c48d395f0", func := "intaglio/intagliolaw04.AeadLong", spec := "aeadLong", inPlace := ["math/bits.Add64"], named := ["intaglio/chacha.rows"], apart := false, laid := [("intaglio/chacha.rows", laid_intaglio_chacha_rows)] }
def AeadLongSaid : Prop := aeadLongRow.holds Tryd.pinned (OpenSpec.ofChange aeadLongSpec)

/-- ITS FALSE NEIGHBOUR: 'it returns false'. Refute it at one input. -/
def aeadLongWrong : ChangeSpec := { name := "aeadLong", fn := fun _ => fun
  | [d1, d2] => { results := [.lit (.bool false)], args := [d1, d2] }
  | _ => none }
def AeadLongWrongFalsely : Prop := aeadLongRow.holds Tryd.pinned (OpenSpec.ofChange aeadLongWrong)

/-- 'intagliolaw04.AeadOpens': WHATEVER THE INPUT: true; the input reads as it did. -/
def aeadOpensSpec : ChangeSpec := { name := "aeadOpens", fn := fun _ => fun
  | [d1, d2] => { results := [.lit (.bool true)], args := [d1, d2] }
  | _ => none }
def aeadOpensRow : OpenClaim := { program := "ytmjjnaaiakchhaadoor", sum := "31cc65a64bc77bab8270d6ef661cf3cd78c91e92487133e2a2d0585c48d395f0", func := "intaglio/intagliolaw04.AeadOpens", spec := "aeadOpens", inPlace := ["math/bits.Add64"], named := ["intaglio/chacha.rows"], apart := false, laid := [("intaglio/chacha.rows", laid_intaglio_chacha_rows)] }
def AeadOpensSaid : Prop := aeadOpensRow.holds Tryd.pinned (OpenSpec.ofChange aeadOpensSpec)

/-- ITS FALSE NEIGHBOUR: 'it returns false'. Refute it at one input. -/
def aeadOpensWrong : ChangeSpec := { name := "aeadOpens", fn := fun _ => fun
  | [d1, d2] => { results := [.lit (.bool false)], args := [d1, d2] }
  | _ => none }
def AeadOpensWrongFalsely : Prop := aeadOpensRow.holds Tryd.pinned (OpenSpec.ofChange aeadOpensWrong)

/-- 'intagliolaw04.AeadBack': WHATEVER THE INPUT: true; the input reads as it did. -/
def aeadBackSpec : ChangeSpec := { name := "aeadBack", fn := fun _ => fun
  | [d1, d2] => { results := [.lit (.bool true)], args := [d1, d2] }
  | _ => none }
def aeadBackRow : OpenClaim := { program := "ytmjjnaaiakchhaadoor", sum := "31cc65a64bc77bab8270d6ef661cf3cd78c91e92487133e2a2d0585c48d395f0", func := "intaglio/intagliolaw04.AeadBack", spec := "aeadBack", inPlace := ["math/bits.Add64"], named := ["intaglio/chacha.rows"], apart := false, laid := [("intaglio/chacha.rows", laid_intaglio_chacha_rows)] }
def AeadBackSaid : Prop := aeadBackRow.holds Tryd.pinned (OpenSpec.ofChange aeadBackSpec)

/-- ITS FALSE NEIGHBOUR: 'it returns false'. Refute it at one input. -/
def aeadBackWrong : ChangeSpec := { name := "aeadBack", fn := fun _ => fun
  | [d1, d2] => { results := [.lit (.bool false)], args := [d1, d2] }
  | _ => none }
def AeadBackWrongFalsely : Prop := aeadBackRow.holds Tryd.pinned (OpenSpec.ofChange aeadBackWrong)

/-- 'intagliolaw04.AeadSeals': WHATEVER THE INPUT: true; the input reads as it did. -/
def aeadSealsSpec : ChangeSpec := { name := "aeadSeals", fn := fun _ => fun
  | [d1, d2] => { results := [.lit (.bool true)], args := [d1, d2] }
  | _ => none }
def aeadSealsRow : OpenClaim := { program := "ytmjjnaaiakchhaadoor", sum := "31cc65a64bc77bab8270d6ef661cf3cd78c91e92487133e2a2d0585c48d395f0", func := "intaglio/intagliolaw04.AeadSeals", spec := "aeadSeals", inPlace := ["math/bits.Add64"], named := ["intaglio/chacha.rows"], apart := false, laid := [("intaglio/chacha.rows", laid_intaglio_chacha_rows)] }
def AeadSealsSaid : Prop := aeadSealsRow.holds Tryd.pinned (OpenSpec.ofChange aeadSealsSpec)

/-- ITS FALSE NEIGHBOUR: 'it returns false'. Refute it at one input. -/
def aeadSealsWrong : ChangeSpec := { name := "aeadSeals", fn := fun _ => fun
  | [d1, d2] => { results := [.lit (.bool false)], args := [d1, d2] }
  | _ => none }
def AeadSealsWrongFalsely : Prop := aeadSealsRow.holds Tryd.pinned (OpenSpec.ofChange aeadSealsWrong)

/- THE SECOND FORM. 'bulk': how many values and letters a reading holds, each counted each time it is reached (what is shared counts as often as it is met; a slice's spare places count too). A statement '..UptoSaid' is the law's where the arguments, and the package variables that the reading takes, are together of bulk at most 1048576: NARROWER than '..Said'. Prove '..Said' where nothing that the law and all that it calls make is longer than what came in: it says more and counts as full. Else prove '..UptoSaid'. A law counts once. -/
mutual
def uptoBulk {H : Type} : DataW H → Nat
  | .lit (.string bytes) => bytes.length + 1
  | .lit _ => 1
  | .nil => 1
  | .ptr d => uptoBulk d + 1
  | .slice elems spare => uptoBulkAll elems + uptoBulkAll spare + 1
  | .agg parts => uptoBulkAll parts + 1
  | .iface _ d => uptoBulk d + 1
  | .map entries => uptoBulkEntries entries + 1
  | .held _ => 1
def uptoBulkAll {H : Type} : List (DataW H) → Nat
  | [] => 0
  | d :: r => uptoBulk d + uptoBulkAll r
def uptoBulkEntries {H : Type} : List (Lit × DataW H) → Nat
  | [] => 0
  | x :: r => uptoBulkEntry x + uptoBulkEntries r
def uptoBulkEntry {H : Type} : Lit × DataW H → Nat
  | (.string bytes, d) => bytes.length + uptoBulk d + 1
  | (_, d) => uptoBulk d + 1
 end
def uptoSmall : (H : Type) → List (DataW H) → Bool := fun _ ds => decide (uptoBulkAll ds ≤ 1048576)
def OpenSpec.upto (s : _root_.Go.ChangeSpec) : _root_.Go.OpenSpec := { _root_.Go.OpenSpec.ofChange s with cond := some uptoSmall }

/-- 'intagliolaw02.ChachaBlock', WHERE WHAT IT READS IS OF BULK AT MOST 1048576: true; the input reads as it did. -/
def chachaBlockUptoRow : OpenClaim := { program := "ytmjjnaaiakchhaadoor", sum := "31cc65a64bc77bab8270d6ef661cf3cd78c91e92487133e2a2d0585c48d395f0", func := "intaglio/intagliolaw02.ChachaBlock", spec := "chachaBlock", named := ["intaglio/chacha.rows"], apart := false, laid := [("intaglio/chacha.rows", laid_intaglio_chacha_rows)], narrowed := true }
def ChachaBlockUptoSaid : Prop := chachaBlockUptoRow.holds Tryd.pinned (OpenSpec.upto chachaBlockSpec)

/-- 'intagliolaw02.ChachaStreams', WHERE WHAT IT READS IS OF BULK AT MOST 1048576: true; the input reads as it did. -/
def chachaStreamsUptoRow : OpenClaim := { program := "ytmjjnaaiakchhaadoor", sum := "31cc65a64bc77bab8270d6ef661cf3cd78c91e92487133e2a2d0585c48d395f0", func := "intaglio/intagliolaw02.ChachaStreams", spec := "chachaStreams", named := ["intaglio/chacha.rows"], apart := false, laid := [("intaglio/chacha.rows", laid_intaglio_chacha_rows)], narrowed := true }
def ChachaStreamsUptoSaid : Prop := chachaStreamsUptoRow.holds Tryd.pinned (OpenSpec.upto chachaStreamsSpec)

/-- 'intagliolaw02.ChachaEnds', WHERE WHAT IT READS IS OF BULK AT MOST 1048576: true; the input reads as it did. -/
def chachaEndsUptoRow : OpenClaim := { program := "ytmjjnaaiakchhaadoor", sum := "31cc65a64bc77bab8270d6ef661cf3cd78c91e92487133e2a2d0585c48d395f0", func := "intaglio/intagliolaw02.ChachaEnds", spec := "chachaEnds", named := ["intaglio/chacha.rows"], apart := false, laid := [("intaglio/chacha.rows", laid_intaglio_chacha_rows)], narrowed := true }
def ChachaEndsUptoSaid : Prop := chachaEndsUptoRow.holds Tryd.pinned (OpenSpec.upto chachaEndsSpec)

/-- 'intagliolaw02.ChachaTwice', WHERE WHAT IT READS IS OF BULK AT MOST 1048576: true; the input reads as it did. -/
def chachaTwiceUptoRow : OpenClaim := { program := "ytmjjnaaiakchhaadoor", sum := "31cc65a64bc77bab8270d6ef661cf3cd78c91e92487133e2a2d0585c48d395f0", func := "intaglio/intagliolaw02.ChachaTwice", spec := "chachaTwice", named := ["intaglio/chacha.rows"], apart := false, laid := [("intaglio/chacha.rows", laid_intaglio_chacha_rows)], narrowed := true }
def ChachaTwiceUptoSaid : Prop := chachaTwiceUptoRow.holds Tryd.pinned (OpenSpec.upto chachaTwiceSpec)

/-- 'intagliolaw02.ChachaPieces', WHERE WHAT IT READS IS OF BULK AT MOST 1048576: true; the input reads as it did. -/
def chachaPiecesUptoRow : OpenClaim := { program := "ytmjjnaaiakchhaadoor", sum := "31cc65a64bc77bab8270d6ef661cf3cd78c91e92487133e2a2d0585c48d395f0", func := "intaglio/intagliolaw02.ChachaPieces", spec := "chachaPieces", named := ["intaglio/chacha.rows"], apart := false, laid := [("intaglio/chacha.rows", laid_intaglio_chacha_rows)], narrowed := true }
def ChachaPiecesUptoSaid : Prop := chachaPiecesUptoRow.holds Tryd.pinned (OpenSpec.upto chachaPiecesSpec)

/-- 'intagliolaw02.ChachaXor', WHERE WHAT IT READS IS OF BULK AT MOST 1048576: true; the input reads as it did. -/
def chachaXorUptoRow : OpenClaim := { program := "ytmjjnaaiakchhaadoor", sum := "31cc65a64bc77bab8270d6ef661cf3cd78c91e92487133e2a2d0585c48d395f0", func := "intaglio/intagliolaw02.ChachaXor", spec := "chachaXor", named := ["intaglio/chacha.rows"], apart := false, laid := [("intaglio/chacha.rows", laid_intaglio_chacha_rows)], narrowed := true }
def ChachaXorUptoSaid : Prop := chachaXorUptoRow.holds Tryd.pinned (OpenSpec.upto chachaXorSpec)

/-- 'intagliolaw04.AeadMarks', WHERE WHAT IT READS IS OF BULK AT MOST 1048576: true; the input reads as it did. -/
def aeadMarksUptoRow : OpenClaim := { program := "ytmjjnaaiakchhaadoor", sum := "31cc65a64bc77bab8270d6ef661cf3cd78c91e92487133e2a2d0585c48d395f0", func := "intaglio/intagliolaw04.AeadMarks", spec := "aeadMarks", inPlace := ["math/bits.Add64"], named := ["intaglio/chacha.rows"], apart := false, laid := [("intaglio/chacha.rows", laid_intaglio_chacha_rows)], narrowed := true }
def AeadMarksUptoSaid : Prop := aeadMarksUptoRow.holds Tryd.pinned (OpenSpec.upto aeadMarksSpec)

/-- 'intagliolaw04.AeadSame', WHERE WHAT IT READS IS OF BULK AT MOST 1048576: true; the input reads as it did. -/
def aeadSameUptoRow : OpenClaim := { program := "ytmjjnaaiakchhaadoor", sum := "31cc65a64bc77bab8270d6ef661cf3cd78c91e92487133e2a2d0585c48d395f0", func := "intaglio/intagliolaw04.AeadSame", spec := "aeadSame", inPlace := ["math/bits.Add64"], named := ["intaglio/chacha.rows"], apart := false, laid := [("intaglio/chacha.rows", laid_intaglio_chacha_rows)], narrowed := true }
def AeadSameUptoSaid : Prop := aeadSameUptoRow.holds Tryd.pinned (OpenSpec.upto aeadSameSpec)

/-- 'intagliolaw04.AeadLong', WHERE WHAT IT READS IS OF BULK AT MOST 1048576: true; the input reads as it did. -/
def aeadLongUptoRow : OpenClaim := { program := "ytmjjnaaiakchhaadoor", sum := "31cc65a64bc77bab8270d6ef661cf3cd78c91e92487133e2a2d0585c48d395f0", func := "intaglio/intagliolaw04.AeadLong", spec := "aeadLong", inPlace := ["math/bits.Add64"], named := ["intaglio/chacha.rows"], apart := false, laid := [("intaglio/chacha.rows", laid_intaglio_chacha_rows)], narrowed := true }
def AeadLongUptoSaid : Prop := aeadLongUptoRow.holds Tryd.pinned (OpenSpec.upto aeadLongSpec)

/-- 'intagliolaw04.AeadOpens', WHERE WHAT IT READS IS OF BULK AT MOST 1048576: true; the input reads as it did. -/
def aeadOpensUptoRow : OpenClaim := { program := "ytmjjnaaiakchhaadoor", sum := "31cc65a64bc77bab8270d6ef661cf3cd78c91e92487133e2a2d0585c48d395f0", func := "intaglio/intagliolaw04.AeadOpens", spec := "aeadOpens", inPlace := ["math/bits.Add64"], named := ["intaglio/chacha.rows"], apart := false, laid := [("intaglio/chacha.rows", laid_intaglio_chacha_rows)], narrowed := true }
def AeadOpensUptoSaid : Prop := aeadOpensUptoRow.holds Tryd.pinned (OpenSpec.upto aeadOpensSpec)

/-- 'intagliolaw04.AeadBack', WHERE WHAT IT READS IS OF BULK AT MOST 1048576: true; the input reads as it did. -/
def aeadBackUptoRow : OpenClaim := { program := "ytmjjnaaiakchhaadoor", sum := "31cc65a64bc77bab8270d6ef661cf3cd78c91e92487133e2a2d0585c48d395f0", func := "intaglio/intagliolaw04.AeadBack", spec := "aeadBack", inPlace := ["math/bits.Add64"], named := ["intaglio/chacha.rows"], apart := false, laid := [("intaglio/chacha.rows", laid_intaglio_chacha_rows)], narrowed := true }
def AeadBackUptoSaid : Prop := aeadBackUptoRow.holds Tryd.pinned (OpenSpec.upto aeadBackSpec)

/-- 'intagliolaw04.AeadSeals', WHERE WHAT IT READS IS OF BULK AT MOST 1048576: true; the input reads as it did. -/
def aeadSealsUptoRow : OpenClaim := { program := "ytmjjnaaiakchhaadoor", sum := "31cc65a64bc77bab8270d6ef661cf3cd78c91e92487133e2a2d0585c48d395f0", func := "intaglio/intagliolaw04.AeadSeals", spec := "aeadSeals", inPlace := ["math/bits.Add64"], named := ["intaglio/chacha.rows"], apart := false, laid := [("intaglio/chacha.rows", laid_intaglio_chacha_rows)], narrowed := true }
def AeadSealsUptoSaid : Prop := aeadSealsUptoRow.holds Tryd.pinned (OpenSpec.upto aeadSealsSpec)

end Rows
end Go.Proofs.YtmjjnaaiakchhaaDoor
