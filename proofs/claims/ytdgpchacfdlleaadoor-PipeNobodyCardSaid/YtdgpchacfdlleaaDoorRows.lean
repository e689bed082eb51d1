/-
  NARROWER THAN 'FOR EVERY INPUT', by the rows' own cells (each row's printed sentence says how): BoxBack: laid · BoxForged: laid · BoxMarked: laid · BoxReal: laid · BoxNobody: laid · PipeBoth: laid · PipePrefix: laid · ShakeAgree: laid · ShakeNobody: laid · ShakeBack: laid · PipeOnce: laid · PipeNobody: laid.
  DERIVED. THE GIVEN ROWS OF THIS SEAT. 12 by the template 'for every input the law returns true; each argument reads behind the call as it read before'; 0 by the template 'total and deterministic' (their statements: YtdgpchacfdlleaaDoorTotals.lean).
  GIVEN WITH THE SEED: the statements are not yours to turn. If you find one false, say at which input.
  Laid BY PROGRAM, IN A SANDBOX (cutbox-rows.mjs): the forced cells as the released guide's own fill.sh prints them over the translation 888da789bea7c2ea… (all of the seat's roots in one cut). By AI agents, Wed Nov 11 2026. No macro, syntax, notation, axiom, sorry.
-/
import Derived.Test.YtdgpchacfdlleaaDoorChecked
import GoSem.Claim
import GoSem.ClaimJoined
import GoSem.ClaimMapViews
import Derived.JoinedTies
import Derived.KernelRfl
namespace Go.Proofs.YtdgpchacfdlleaaDoor
/- THE CELL 'sum', in the pinned program and in every row, IS THE sha256 OF THE DUMP (.gsa) THAT YtdgpchacfdlleaaDoorProg.lean LOADS. Nothing in Lean hashes anything: it is a label: what it is worth is what the hold of that sum in a sandbox is worth. -/
noncomputable def Tryd.pinned : Pinned := { name := "ytdgpchacfdlleaadoor", sum := "888da789bea7c2ea0675827dd7e38f3652867c20e79156a6e8a3adf3cce730d4", checked := Tryd.checked }
namespace Rows
def none {H : Type} : Left H := { results := [], args := [] }

/- WHAT THE LISTED PACKAGE-LEVEL VARIABLES READ AS WHEN THE CALL BEGINS. Each datum BY PROGRAM (the guide's laid-datum.mjs) off the statement by which the dump's own 'gosem.cut.vars' lays the variable. In a bare row this is a premise. The card (YtdgpchacfdlleaaDoorCards.lean) ties it to the program's text. -/
def laid_intaglio_chacha_rows {H : Type} : DataW H := .agg [.agg [.lit (.int .i64 0), .lit (.int .i64 4), .lit (.int .i64 8), .lit (.int .i64 12)], .agg [.lit (.int .i64 1), .lit (.int .i64 5), .lit (.int .i64 9), .lit (.int .i64 13)], .agg [.lit (.int .i64 2), .lit (.int .i64 6), .lit (.int .i64 10), .lit (.int .i64 14)], .agg [.lit (.int .i64 3), .lit (.int .i64 7), .lit (.int .i64 11), .lit (.int .i64 15)], .agg [.lit (.int .i64 0), .lit (.int .i64 5), .lit (.int .i64 10), .lit (.int .i64 15)], .agg [.lit (.int .i64 1), .lit (.int .i64 6), .lit (.int .i64 11), .lit (.int .i64 12)], .agg [.lit (.int .i64 2), .lit (.int .i64 7), .lit (.int .i64 8), .lit (.int .i64 13)], .agg [.lit (.int .i64 3), .lit (.int .i64 4), .lit (.int .i64 9), .lit (.int .i64 14)]]
def laid_intaglio_sha_start {H : Type} : DataW H := .agg [.lit (.int .u32 1779033703), .lit (.int .u32 3144134277), .lit (.int .u32 1013904242), .lit (.int .u32 2773480762), .lit (.int .u32 1359893119), .lit (.int .u32 2600822924), .lit (.int .u32 528734635), .lit (.int .u32 1541459225)]
def laid_intaglio_sha_cubes {H : Type} : DataW H := .agg [.lit (.int .u32 1116352408), .lit (.int .u32 1899447441), .lit (.int .u32 3049323471), .lit (.int .u32 3921009573), .lit (.int .u32 961987163), .lit (.int .u32 1508970993), .lit (.int .u32 2453635748), .lit (.int .u32 2870763221), .lit (.int .u32 3624381080), .lit (.int .u32 310598401), .lit (.int .u32 607225278), .lit (.int .u32 1426881987), .lit (.int .u32 1925078388), .lit (.int .u32 2162078206), .lit (.int .u32 2614888103), .lit (.int .u32 3248222580), .lit (.int .u32 3835390401), .lit (.int .u32 4022224774), .lit (.int .u32 264347078), .lit (.int .u32 604807628), .lit (.int .u32 770255983), .lit (.int .u32 1249150122), .lit (.int .u32 1555081692), .lit (.int .u32 1996064986), .lit (.int .u32 2554220882), .lit (.int .u32 2821834349), .lit (.int .u32 2952996808), .lit (.int .u32 3210313671), .lit (.int .u32 3336571891), .lit (.int .u32 3584528711), .lit (.int .u32 113926993), .lit (.int .u32 338241895), .lit (.int .u32 666307205), .lit (.int .u32 773529912), .lit (.int .u32 1294757372), .lit (.int .u32 1396182291), .lit (.int .u32 1695183700), .lit (.int .u32 1986661051), .lit (.int .u32 2177026350), .lit (.int .u32 2456956037), .lit (.int .u32 2730485921), .lit (.int .u32 2820302411), .lit (.int .u32 3259730800), .lit (.int .u32 3345764771), .lit (.int .u32 3516065817), .lit (.int .u32 3600352804), .lit (.int .u32 4094571909), .lit (.int .u32 275423344), .lit (.int .u32 430227734), .lit (.int .u32 506948616), .lit (.int .u32 659060556), .lit (.int .u32 883997877), .lit (.int .u32 958139571), .lit (.int .u32 1322822218), .lit (.int .u32 1537002063), .lit (.int .u32 1747873779), .lit (.int .u32 1955562222), .lit (.int .u32 2024104815), .lit (.int .u32 2227730452), .lit (.int .u32 2361852424), .lit (.int .u32 2428436474), .lit (.int .u32 2756734187), .lit (.int .u32 3204031479), .lit (.int .u32 3329325298)]

/-- 'intagliolaw08.BoxBack': WHATEVER THE INPUT: true; the input reads as it did. -/
def boxBackSpec : ChangeSpec := { name := "boxBack", fn := fun _ => fun
  | [d1, d2, d3] => { results := [.lit (.bool true)], args := [d1, d2, d3] }
  | _ => none }
def boxBackRow : OpenClaim := { program := "ytdgpchacfdlleaadoor", sum := "888da789bea7c2ea0675827dd7e38f3652867c20e79156a6e8a3adf3cce730d4", func := "intaglio/intagliolaw08.BoxBack", spec := "boxBack", inPlace := ["math/bits.Add64"], named := ["intaglio/sha.start", "intaglio/sha.cubes", "intaglio/chacha.rows"], plainKeys := false, apart := false, laid := [("intaglio/chacha.rows", laid_intaglio_chacha_rows), ("intaglio/sha.start", laid_intaglio_sha_start), ("intaglio/sha.cubes", laid_intaglio_sha_cubes)] }
def BoxBackSaid : Prop := boxBackRow.holds Tryd.pinned (OpenSpec.ofChange boxBackSpec)

/-- ITS FALSE NEIGHBOUR: 'it returns false'. Refute it at one input. -/
def boxBackWrong : ChangeSpec := { name := "boxBack", fn := fun _ => fun
  | [d1, d2, d3] => { results := [.lit (.bool false)], args := [d1, d2, d3] }
  | _ => none }
def BoxBackWrongFalsely : Prop := boxBackRow.holds Tryd.pinned (OpenSpec.ofChange boxBackWrong)

/-- 'intagliolaw08.BoxForged': WHATEVER THE INPUT: true; the input reads as it did. -/
def boxForgedSpec : ChangeSpec := { name := "boxForged", fn := fun _ => fun
  | [d1, d2] => { results := [.lit (.bool true)], args := [d1, d2] }
  | _ => none }
def boxForgedRow : OpenClaim := { program := "ytdgpchacfdlleaadoor", sum := "888da789bea7c2ea0675827dd7e38f3652867c20e79156a6e8a3adf3cce730d4", func := "intaglio/intagliolaw08.BoxForged", spec := "boxForged", inPlace := ["math/bits.Add64"], named := ["intaglio/sha.start", "intaglio/sha.cubes", "intaglio/chacha.rows"], plainKeys := false, apart := false, laid := [("intaglio/chacha.rows", laid_intaglio_chacha_rows), ("intaglio/sha.start", laid_intaglio_sha_start), ("intaglio/sha.cubes", laid_intaglio_sha_cubes)] }
def BoxForgedSaid : Prop := boxForgedRow.holds Tryd.pinned (OpenSpec.ofChange boxForgedSpec)

/-- ITS FALSE NEIGHBOUR: 'it returns false'. Refute it at one input. -/
def boxForgedWrong : ChangeSpec := { name := "boxForged", fn := fun _ => fun
  | [d1, d2] => { results := [.lit (.bool false)], args := [d1, d2] }
  | _ => none }
def BoxForgedWrongFalsely : Prop := boxForgedRow.holds Tryd.pinned (OpenSpec.ofChange boxForgedWrong)

/-- 'intagliolaw08.BoxMarked': WHATEVER THE INPUT: true; the input reads as it did. -/
def boxMarkedSpec : ChangeSpec := { name := "boxMarked", fn := fun _ => fun
  | [d1, d2] => { results := [.lit (.bool true)], args := [d1, d2] }
  | _ => none }
def boxMarkedRow : OpenClaim := { program := "ytdgpchacfdlleaadoor", sum := "888da789bea7c2ea0675827dd7e38f3652867c20e79156a6e8a3adf3cce730d4", func := "intaglio/intagliolaw08.BoxMarked", spec := "boxMarked", inPlace := ["math/bits.Add64"], named := ["intaglio/sha.start", "intaglio/sha.cubes", "intaglio/chacha.rows"], plainKeys := false, apart := false, laid := [("intaglio/chacha.rows", laid_intaglio_chacha_rows), ("intaglio/sha.start", laid_intaglio_sha_start), ("intaglio/sha.cubes", laid_intaglio_sha_cubes)] }
def BoxMarkedSaid : Prop := boxMarkedRow.holds Tryd.pinned (OpenSpec.ofChange boxMarkedSpec)

/-- ITS FALSE NEIGHBOUR: 'it returns false'. Refute it at one input. -/
def boxMarkedWrong : ChangeSpec := { name := "boxMarked", fn := fun _ => fun
  | [d1, d2] => { results := [.lit (.bool false)], args := [d1, d2] }
  | _ => none }
def BoxMarkedWrongFalsely : Prop := boxMarkedRow.holds Tryd.pinned (OpenSpec.ofChange boxMarkedWrong)

/-- 'intagliolaw08.BoxReal': WHATEVER THE INPUT: true; the input reads as it did. -/
def boxRealSpec : ChangeSpec := { name := "boxReal", fn := fun _ => fun
  | [d1, d2, d3] => { results := [.lit (.bool true)], args := [d1, d2, d3] }
  | _ => none }
def boxRealRow : OpenClaim := { program := "ytdgpchacfdlleaadoor", sum := "888da789bea7c2ea0675827dd7e38f3652867c20e79156a6e8a3adf3cce730d4", func := "intaglio/intagliolaw08.BoxReal", spec := "boxReal", inPlace := ["math/bits.Add64"], named := ["intaglio/sha.start", "intaglio/sha.cubes", "intaglio/chacha.rows"], plainKeys := false, apart := false, laid := [("intaglio/chacha.rows", laid_intaglio_chacha_rows), ("intaglio/sha.start", laid_intaglio_sha_start), ("intaglio/sha.cubes", laid_intaglio_sha_cubes)] }
def BoxRealSaid : Prop := boxRealRow.holds Tryd.pinned (OpenSpec.ofChange boxRealSpec)

/-- ITS FALSE NEIGHBOUR: 'it returns false'. Refute it at one input. -/
def boxRealWrong : ChangeSpec := { name := "boxReal", fn := fun _ => fun
  | [d1, d2, d3] => { results := [.lit (.bool false)], args := [d1, d2, d3] }
  | _ => none }
def BoxRealWrongFalsely : Prop := boxRealRow.holds Tryd.pinned (OpenSpec.ofChange boxRealWrong)

/-- 'intagliolaw08.BoxNobody': WHATEVER THE INPUT: true; the input reads as it did. -/
def boxNobodySpec : ChangeSpec := { name := "boxNobody", fn := fun _ => fun
  | [d] => { results := [.lit (.bool true)], args := [d] }
  | _ => none }
def boxNobodyRow : OpenClaim := { program := "ytdgpchacfdlleaadoor", sum := "888da789bea7c2ea0675827dd7e38f3652867c20e79156a6e8a3adf3cce730d4", func := "intaglio/intagliolaw08.BoxNobody", spec := "boxNobody", inPlace := ["math/bits.Add64"], named := ["intaglio/sha.start", "intaglio/sha.cubes", "intaglio/chacha.rows"], plainKeys := false, apart := false, laid := [("intaglio/chacha.rows", laid_intaglio_chacha_rows), ("intaglio/sha.start", laid_intaglio_sha_start), ("intaglio/sha.cubes", laid_intaglio_sha_cubes)] }
def BoxNobodySaid : Prop := boxNobodyRow.holds Tryd.pinned (OpenSpec.ofChange boxNobodySpec)

/-- ITS FALSE NEIGHBOUR: 'it returns false'. Refute it at one input. -/
def boxNobodyWrong : ChangeSpec := { name := "boxNobody", fn := fun _ => fun
  | [d] => { results := [.lit (.bool false)], args := [d] }
  | _ => none }
def BoxNobodyWrongFalsely : Prop := boxNobodyRow.holds Tryd.pinned (OpenSpec.ofChange boxNobodyWrong)

/-- 'intagliolaw23.PipeBoth': WHATEVER THE INPUT: true; the input reads as it did. -/
def pipeBothSpec : ChangeSpec := { name := "pipeBoth", fn := fun _ => fun
  | [d1, d2, d3] => { results := [.lit (.bool true)], args := [d1, d2, d3] }
  | _ => none }
def pipeBothRow : OpenClaim := { program := "ytdgpchacfdlleaadoor", sum := "888da789bea7c2ea0675827dd7e38f3652867c20e79156a6e8a3adf3cce730d4", func := "intaglio/intagliolaw23.PipeBoth", spec := "pipeBoth", inPlace := ["math/bits.Add64"], unfollowed := true, recurses := true, named := ["intaglio/sha.start", "intaglio/sha.cubes", "intaglio/chacha.rows"], plainKeys := false, apart := false, laid := [("intaglio/chacha.rows", laid_intaglio_chacha_rows), ("intaglio/sha.start", laid_intaglio_sha_start), ("intaglio/sha.cubes", laid_intaglio_sha_cubes)] }
def PipeBothSaid : Prop := pipeBothRow.holds Tryd.pinned (OpenSpec.ofChange pipeBothSpec)

/-- ITS FALSE NEIGHBOUR: 'it returns false'. Refute it at one input. -/
def pipeBothWrong : ChangeSpec := { name := "pipeBoth", fn := fun _ => fun
  | [d1, d2, d3] => { results := [.lit (.bool false)], args := [d1, d2, d3] }
  | _ => none }
def PipeBothWrongFalsely : Prop := pipeBothRow.holds Tryd.pinned (OpenSpec.ofChange pipeBothWrong)

/-- 'intagliolaw23.PipePrefix': WHATEVER THE INPUT: true; the input reads as it did. -/
def pipePrefixSpec : ChangeSpec := { name := "pipePrefix", fn := fun _ => fun
  | [d1, d2] => { results := [.lit (.bool true)], args := [d1, d2] }
  | _ => none }
def pipePrefixRow : OpenClaim := { program := "ytdgpchacfdlleaadoor", sum := "888da789bea7c2ea0675827dd7e38f3652867c20e79156a6e8a3adf3cce730d4", func := "intaglio/intagliolaw23.PipePrefix", spec := "pipePrefix", inPlace := ["math/bits.Add64"], unfollowed := true, recurses := true, named := ["intaglio/sha.start", "intaglio/sha.cubes", "intaglio/chacha.rows"], plainKeys := false, apart := false, laid := [("intaglio/chacha.rows", laid_intaglio_chacha_rows), ("intaglio/sha.start", laid_intaglio_sha_start), ("intaglio/sha.cubes", laid_intaglio_sha_cubes)] }
def PipePrefixSaid : Prop := pipePrefixRow.holds Tryd.pinned (OpenSpec.ofChange pipePrefixSpec)

/-- ITS FALSE NEIGHBOUR: 'it returns false'. Refute it at one input. -/
def pipePrefixWrong : ChangeSpec := { name := "pipePrefix", fn := fun _ => fun
  | [d1, d2] => { results := [.lit (.bool false)], args := [d1, d2] }
  | _ => none }
def PipePrefixWrongFalsely : Prop := pipePrefixRow.holds Tryd.pinned (OpenSpec.ofChange pipePrefixWrong)

/-- 'intagliolaw22.ShakeAgree': WHATEVER THE INPUT: true; the input reads as it did. -/
def shakeAgreeSpec : ChangeSpec := { name := "shakeAgree", fn := fun _ => fun
  | [d] => { results := [.lit (.bool true)], args := [d] }
  | _ => none }
def shakeAgreeRow : OpenClaim := { program := "ytdgpchacfdlleaadoor", sum := "888da789bea7c2ea0675827dd7e38f3652867c20e79156a6e8a3adf3cce730d4", func := "intaglio/intagliolaw22.ShakeAgree", spec := "shakeAgree", inPlace := ["math/bits.Add64"], named := ["intaglio/sha.start", "intaglio/sha.cubes", "intaglio/chacha.rows"], plainKeys := false, apart := false, laid := [("intaglio/chacha.rows", laid_intaglio_chacha_rows), ("intaglio/sha.start", laid_intaglio_sha_start), ("intaglio/sha.cubes", laid_intaglio_sha_cubes)] }
def ShakeAgreeSaid : Prop := shakeAgreeRow.holds Tryd.pinned (OpenSpec.ofChange shakeAgreeSpec)

/-- ITS FALSE NEIGHBOUR: 'it returns false'. Refute it at one input. -/
def shakeAgreeWrong : ChangeSpec := { name := "shakeAgree", fn := fun _ => fun
  | [d] => { results := [.lit (.bool false)], args := [d] }
  | _ => none }
def ShakeAgreeWrongFalsely : Prop := shakeAgreeRow.holds Tryd.pinned (OpenSpec.ofChange shakeAgreeWrong)

/-- 'intagliolaw22.ShakeNobody': WHATEVER THE INPUT: true; the input reads as it did. -/
def shakeNobodySpec : ChangeSpec := { name := "shakeNobody", fn := fun _ => fun
  | [d] => { results := [.lit (.bool true)], args := [d] }
  | _ => none }
def shakeNobodyRow : OpenClaim := { program := "ytdgpchacfdlleaadoor", sum := "888da789bea7c2ea0675827dd7e38f3652867c20e79156a6e8a3adf3cce730d4", func := "intaglio/intagliolaw22.ShakeNobody", spec := "shakeNobody", inPlace := ["math/bits.Add64"], named := ["intaglio/sha.start", "intaglio/sha.cubes", "intaglio/chacha.rows"], plainKeys := false, apart := false, laid := [("intaglio/chacha.rows", laid_intaglio_chacha_rows), ("intaglio/sha.start", laid_intaglio_sha_start), ("intaglio/sha.cubes", laid_intaglio_sha_cubes)] }
def ShakeNobodySaid : Prop := shakeNobodyRow.holds Tryd.pinned (OpenSpec.ofChange shakeNobodySpec)

/-- ITS FALSE NEIGHBOUR: 'it returns false'. Refute it at one input. -/
def shakeNobodyWrong : ChangeSpec := { name := "shakeNobody", fn := fun _ => fun
  | [d] => { results := [.lit (.bool false)], args := [d] }
  | _ => none }
def ShakeNobodyWrongFalsely : Prop := shakeNobodyRow.holds Tryd.pinned (OpenSpec.ofChange shakeNobodyWrong)

/-- 'intagliolaw22.ShakeBack': WHATEVER THE INPUT: true; the input reads as it did. -/
def shakeBackSpec : ChangeSpec := { name := "shakeBack", fn := fun _ => fun
  | [d1, d2, d3] => { results := [.lit (.bool true)], args := [d1, d2, d3] }
  | _ => none }
def shakeBackRow : OpenClaim := { program := "ytdgpchacfdlleaadoor", sum := "888da789bea7c2ea0675827dd7e38f3652867c20e79156a6e8a3adf3cce730d4", func := "intaglio/intagliolaw22.ShakeBack", spec := "shakeBack", inPlace := ["math/bits.Add64"], named := ["intaglio/sha.start", "intaglio/sha.cubes", "intaglio/chacha.rows"], plainKeys := false, apart := false, laid := [("intaglio/chacha.rows", laid_intaglio_chacha_rows), ("intaglio/sha.start", laid_intaglio_sha_start), ("intaglio/sha.cubes", laid_intaglio_sha_cubes)] }
def ShakeBackSaid : Prop := shakeBackRow.holds Tryd.pinned (OpenSpec.ofChange shakeBackSpec)

/-- ITS FALSE NEIGHBOUR: 'it returns false'. Refute it at one input. -/
def shakeBackWrong : ChangeSpec := { name := "shakeBack", fn := fun _ => fun
  | [d1, d2, d3] => { results := [.lit (.bool false)], args := [d1, d2, d3] }
  | _ => none }
def ShakeBackWrongFalsely : Prop := shakeBackRow.holds Tryd.pinned (OpenSpec.ofChange shakeBackWrong)

/-- 'intagliolaw23.PipeOnce': WHATEVER THE INPUT: true; the input reads as it did. -/
def pipeOnceSpec : ChangeSpec := { name := "pipeOnce", fn := fun _ => fun
  | [d1, d2, d3] => { results := [.lit (.bool true)], args := [d1, d2, d3] }
  | _ => none }
def pipeOnceRow : OpenClaim := { program := "ytdgpchacfdlleaadoor", sum := "888da789bea7c2ea0675827dd7e38f3652867c20e79156a6e8a3adf3cce730d4", func := "intaglio/intagliolaw23.PipeOnce", spec := "pipeOnce", inPlace := ["math/bits.Add64"], unfollowed := true, recurses := true, named := ["intaglio/sha.start", "intaglio/sha.cubes", "intaglio/chacha.rows"], plainKeys := false, apart := false, laid := [("intaglio/chacha.rows", laid_intaglio_chacha_rows), ("intaglio/sha.start", laid_intaglio_sha_start), ("intaglio/sha.cubes", laid_intaglio_sha_cubes)] }
def PipeOnceSaid : Prop := pipeOnceRow.holds Tryd.pinned (OpenSpec.ofChange pipeOnceSpec)

/-- ITS FALSE NEIGHBOUR: 'it returns false'. Refute it at one input. -/
def pipeOnceWrong : ChangeSpec := { name := "pipeOnce", fn := fun _ => fun
  | [d1, d2, d3] => { results := [.lit (.bool false)], args := [d1, d2, d3] }
  | _ => none }
def PipeOnceWrongFalsely : Prop := pipeOnceRow.holds Tryd.pinned (OpenSpec.ofChange pipeOnceWrong)

/-- 'intagliolaw23.PipeNobody': WHATEVER THE INPUT: true; the input reads as it did. -/
def pipeNobodySpec : ChangeSpec := { name := "pipeNobody", fn := fun _ => fun
  | [d1, d2, d3] => { results := [.lit (.bool true)], args := [d1, d2, d3] }
  | _ => none }
def pipeNobodyRow : OpenClaim := { program := "ytdgpchacfdlleaadoor", sum := "888da789bea7c2ea0675827dd7e38f3652867c20e79156a6e8a3adf3cce730d4", func := "intaglio/intagliolaw23.PipeNobody", spec := "pipeNobody", inPlace := ["math/bits.Add64"], unfollowed := true, recurses := true, named := ["intaglio/sha.start", "intaglio/sha.cubes", "intaglio/chacha.rows"], plainKeys := false, apart := false, laid := [("intaglio/chacha.rows", laid_intaglio_chacha_rows), ("intaglio/sha.start", laid_intaglio_sha_start), ("intaglio/sha.cubes", laid_intaglio_sha_cubes)] }
def PipeNobodySaid : Prop := pipeNobodyRow.holds Tryd.pinned (OpenSpec.ofChange pipeNobodySpec)

/-- ITS FALSE NEIGHBOUR: 'it returns false'. Refute it at one input. -/
def pipeNobodyWrong : ChangeSpec := { name := "pipeNobody", fn := fun _ => fun
  | [d1, d2, d3] => { results := [.lit (.bool false)], args := [d1, d2, d3] }
  | _ => none }
def PipeNobodyWrongFalsely : Prop := pipeNobodyRow.holds Tryd.pinned (OpenSpec.ofChange pipeNobodyWrong)

/- THE SECOND FORM. 'bulk': how many values and letters a reading holds, each counted each time it is reached (what is shared counts as often as it is met; a slice's spare places count too). A statement '..UptoSaid' is the law's where the arguments, and the package variables that the reading takes, are together of bulk at most 1048576: NARROWER than '..Said'. Prove '..Said' where nothing that the law and all that it calls make is longer than what came in: it says more and counts as full. Else prove '..UptoSaid'. A law counts once. -/
mutual
def uptoBulk {H : Type} : DataW H → Nat
  | .lit (.string bytes) => bytes.length + 1
  | .lit _ => 1
  | .nil => 1
  | .ptr d => uptoBulk d + 1
  | .slice elems spare => uptoBulkAll elems + uptoBulkAll spare + 1
  | .agg parts => uptoBulkAll parts + 1
  | .iface _ d => uptoBulk d + 1
  | .map entries => uptoBulkEntries entries + 1
  | .held _ => 1
def uptoBulkAll {H : Type} : List (DataW H) → Nat
  | [] => 0
  | d :: r => uptoBulk d + uptoBulkAll r
def uptoBulkEntries {H : Type} : List (Lit × DataW H) → Nat
  | [] => 0
  | x :: r => uptoBulkEntry x + uptoBulkEntries r
def uptoBulkEntry {H : Type} : Lit × DataW H → Nat
  | (.string bytes, d) => bytes.length + uptoBulk d + 1
  | (_, d) => uptoBulk d + 1
 end
def uptoSmall : (H : Type) → List (DataW H) → Bool := fun _ ds => decide (uptoBulkAll ds ≤ 1048576)
def OpenSpec.upto (s : _root_.Go.ChangeSpec) : _root_.Go.OpenSpec := { _root_.Go.OpenSpec.ofChange s with cond := some uptoSmall }

/-- 'intagliolaw08.BoxBack', WHERE WHAT IT READS IS OF BULK AT MOST 1048576: true; the input reads as it did. -/
def boxBackUptoRow : OpenClaim := { program := "ytdgpchacfdlleaadoor", sum := "888da789bea7c2ea0675827dd7e38f3652867c20e79156a6e8a3adf3cce730d4", func := "intaglio/intagliolaw08.BoxBack", spec := "boxBack", inPlace := ["math/bits.Add64"], named := ["intaglio/sha.start", "intaglio/sha.cubes", "intaglio/chacha.rows"], plainKeys := false, apart := false, laid := [("intaglio/chacha.rows", laid_intaglio_chacha_rows), ("intaglio/sha.start", laid_intaglio_sha_start), ("intaglio/sha.cubes", laid_intaglio_sha_cubes)], narrowed := true }
def BoxBackUptoSaid : Prop := boxBackUptoRow.holds Tryd.pinned (OpenSpec.upto boxBackSpec)

/-- 'intagliolaw08.BoxForged', WHERE WHAT IT READS IS OF BULK AT MOST 1048576: true; the input reads as it did. -/
def boxForgedUptoRow : OpenClaim := { program := "ytdgpchacfdlleaadoor", sum := "888da789bea7c2ea0675827dd7e38f3652867c20e79156a6e8a3adf3cce730d4", func := "intaglio/intagliolaw08.BoxForged", spec := "boxForged", inPlace := ["math/bits.Add64"], named := ["intaglio/sha.start", "intaglio/sha.cubes", "intaglio/chacha.rows"], plainKeys := false, apart := false, laid := [("intaglio/chacha.rows", laid_intaglio_chacha_rows), ("intaglio/sha.start", laid_intaglio_sha_start), ("intaglio/sha.cubes", laid_intaglio_sha_cubes)], narrowed := true }
def BoxForgedUptoSaid : Prop := boxForgedUptoRow.holds Tryd.pinned (OpenSpec.upto boxForgedSpec)

/-- 'intagliolaw08.BoxMarked', WHERE WHAT IT READS IS OF BULK AT MOST 1048576: true; the input reads as it did. -/
def boxMarkedUptoRow : OpenClaim := { program := "ytdgpchacfdlleaadoor", sum := "888da789bea7c2ea0675827dd7e38f3652867c20e79156a6e8a3adf3cce730d4", func := "intaglio/intagliolaw08.BoxMarked", spec := "boxMarked", inPlace := ["math/bits.Add64"], named := ["intaglio/sha.start", "intaglio/sha.cubes", "intaglio/chacha.rows"], plainKeys := false, apart := false, laid := [("intaglio/chacha.rows", laid_intaglio_chacha_rows), ("intaglio/sha.start", laid_intaglio_sha_start), ("intaglio/sha.cubes", laid_intaglio_sha_cubes)], narrowed := true }
def BoxMarkedUptoSaid : Prop := boxMarkedUptoRow.holds Tryd.pinned (OpenSpec.upto boxMarkedSpec)

/-- 'intagliolaw08.BoxReal', WHERE WHAT IT READS IS OF BULK AT MOST 1048576: true; the input reads as it did. -/
def boxRealUptoRow : OpenClaim := { program := "ytdgpchacfdlleaadoor", sum := "888da789bea7c2ea0675827dd7e38f3652867c20e79156a6e8a3adf3cce730d4", func := "intaglio/intagliolaw08.BoxReal", spec := "boxReal", inPlace := ["math/bits.Add64"], named := ["intaglio/sha.start", "intaglio/sha.cubes", "intaglio/chacha.rows"], plainKeys := false, apart := false, laid := [("intaglio/chacha.rows", laid_intaglio_chacha_rows), ("intaglio/sha.start", laid_intaglio_sha_start), ("intaglio/sha.cubes", laid_intaglio_sha_cubes)], narrowed := true }
def BoxRealUptoSaid : Prop := boxRealUptoRow.holds Tryd.pinned (OpenSpec.upto boxRealSpec)

/-- 'intagliolaw08.BoxNobody', WHERE WHAT IT READS IS OF BULK AT MOST 1048576: true; the input reads as it did. -/
def boxNobodyUptoRow : OpenClaim := { program := "ytdgpchacfdlleaadoor", sum := "888da789bea7c2ea0675827dd7e38f3652867c20e79156a6e8a3adf3cce730d4", func := "intaglio/intagliolaw08.BoxNobody", spec := "boxNobody", inPlace := ["math/bits.Add64"], named := ["intaglio/sha.start", "intaglio/sha.cubes", "intaglio/chacha.rows"], plainKeys := false, apart := false, laid := [("intaglio/chacha.rows", laid_intaglio_chacha_rows), ("intaglio/sha.start", laid_intaglio_sha_start), ("intaglio/sha.cubes", laid_intaglio_sha_cubes)], narrowed := true }
def BoxNobodyUptoSaid : Prop := boxNobodyUptoRow.holds Tryd.pinned (OpenSpec.upto boxNobodySpec)

/-- 'intagliolaw23.PipeBoth', WHERE WHAT IT READS IS OF BULK AT MOST 1048576: true; the input reads as it did. -/
def pipeBothUptoRow : OpenClaim := { program := "ytdgpchacfdlleaadoor", sum := "888da789bea7c2ea0675827dd7e38f3652867c20e79156a6e8a3adf3cce730d4", func := "intaglio/intagliolaw23.PipeBoth", spec := "pipeBoth", inPlace := ["math/bits.Add64"], unfollowed := true, recurses := true, named := ["intaglio/sha.start", "intaglio/sha.cubes", "intaglio/chacha.rows"], plainKeys := false, apart := false, laid := [("intaglio/chacha.rows", laid_intaglio_chacha_rows), ("intaglio/sha.start", laid_intaglio_sha_start), ("intaglio/sha.cubes", laid_intaglio_sha_cubes)], narrowed := true }
def PipeBothUptoSaid : Prop := pipeBothUptoRow.holds Tryd.pinned (OpenSpec.upto pipeBothSpec)

/-- 'intagliolaw23.PipePrefix', WHERE WHAT IT READS IS OF BULK AT MOST 1048576: true; the input reads as it did. -/
def pipePrefixUptoRow : OpenClaim := { program := "ytdgpchacfdlleaadoor", sum := "888da789bea7c2ea0675827dd7e38f3652867c20e79156a6e8a3adf3cce730d4", func := "intaglio/intagliolaw23.PipePrefix", spec := "pipePrefix", inPlace := ["math/bits.Add64"], unfollowed := true, recurses := true, named := ["intaglio/sha.start", "intaglio/sha.cubes", "intaglio/chacha.rows"], plainKeys := false, apart := false, laid := [("intaglio/chacha.rows", laid_intaglio_chacha_rows), ("intaglio/sha.start", laid_intaglio_sha_start), ("intaglio/sha.cubes", laid_intaglio_sha_cubes)], narrowed := true }
def PipePrefixUptoSaid : Prop := pipePrefixUptoRow.holds Tryd.pinned (OpenSpec.upto pipePrefixSpec)

/-- 'intagliolaw22.ShakeAgree', WHERE WHAT IT READS IS OF BULK AT MOST 1048576: true; the input reads as it did. -/
def shakeAgreeUptoRow : OpenClaim := { program := "ytdgpchacfdlleaadoor", sum := "888da789bea7c2ea0675827dd7e38f3652867c20e79156a6e8a3adf3cce730d4", func := "intaglio/intagliolaw22.ShakeAgree", spec := "shakeAgree", inPlace := ["math/bits.Add64"], named := ["intaglio/sha.start", "intaglio/sha.cubes", "intaglio/chacha.rows"], plainKeys := false, apart := false, laid := [("intaglio/chacha.rows", laid_intaglio_chacha_rows), ("intaglio/sha.start", laid_intaglio_sha_start), ("intaglio/sha.cubes", laid_intaglio_sha_cubes)], narrowed := true }
def ShakeAgreeUptoSaid : Prop := shakeAgreeUptoRow.holds Tryd.pinned (OpenSpec.upto shakeAgreeSpec)

/-- 'intagliolaw22.ShakeNobody', WHERE WHAT IT READS IS OF BULK AT MOST 1048576: true; the input reads as it did. -/
def shakeNobodyUptoRow : OpenClaim := { program := "ytdgpchacfdlleaadoor", sum := "888da789bea7c2ea0675827dd7e38f3652867c20e79156a6e8a3adf3cce730d4", func := "intaglio/intagliolaw22.ShakeNobody", spec := "shakeNobody", inPlace := ["math/bits.Add64"], named := ["intaglio/sha.start", "intaglio/sha.cubes", "intaglio/chacha.rows"], plainKeys := false, apart := false, laid := [("intaglio/chacha.rows", laid_intaglio_chacha_rows), ("intaglio/sha.start", laid_intaglio_sha_start), ("intaglio/sha.cubes", laid_intaglio_sha_cubes)], narrowed := true }
def ShakeNobodyUptoSaid : Prop := shakeNobodyUptoRow.holds Tryd.pinned (OpenSpec.upto shakeNobodySpec)

/-- 'intagliolaw22.ShakeBack', WHERE WHAT IT READS IS OF BULK AT MOST 1048576: true; the input reads as it did. -/
def shakeBackUptoRow : OpenClaim := { program := "ytdgpchacfdlleaadoor", sum := "888da789bea7c2ea0675827dd7e38f3652867c20e79156a6e8a3adf3cce730d4", func := "intaglio/intagliolaw22.ShakeBack", spec := "shakeBack", inPlace := ["math/bits.Add64"], named := ["intaglio/sha.start", "intaglio/sha.cubes", "intaglio/chacha.rows"], plainKeys := false, apart := false, laid := [("intaglio/chacha.rows", laid_intaglio_chacha_rows), ("intaglio/sha.start", laid_intaglio_sha_start), ("intaglio/sha.cubes", laid_intaglio_sha_cubes)], narrowed := true }
def ShakeBackUptoSaid : Prop := shakeBackUptoRow.holds Tryd.pinned (OpenSpec.upto shakeBackSpec)

/-- 'intagliolaw23.PipeOnce', WHERE WHAT IT READS IS OF BULK AT MOST 1048576: true; the input reads as it did. -/
def pipeOnceUptoRow : OpenClaim := { program := "ytdgpchacfdlleaadoor", sum := "888da789bea7c2ea0675827dd7e38f3652867c20e79156a6e8a3adf3cce730d4", func := "intaglio/intagliolaw23.PipeOnce", spec := "pipeOnce", inPlace := ["math/bits.Add64"], unfollowed := true, recurses := true, named := ["intaglio/sha.start", "intaglio/sha.cubes", "intaglio/chacha.rows"], plainKeys := false, apart := false, laid := [("intaglio/chacha.rows", laid_intaglio_chacha_rows), ("intaglio/sha.start", laid_intaglio_sha_start), ("intaglio/sha.cubes", laid_intaglio_sha_cubes)], narrowed := true }
def PipeOnceUptoSaid : Prop := pipeOnceUptoRow.holds Tryd.pinned (OpenSpec.upto pipeOnceSpec)

/-- 'intagliolaw23.PipeNobody', WHERE WHAT IT READS IS OF BULK AT MOST 1048576: true; the input reads as it did. -/
def pipeNobodyUptoRow : OpenClaim := { program := "ytdgpchacfdlleaadoor", sum := "888da789bea7c2ea0675827dd7e38f3652867c20e79156a6e8a3adf3cce730d4", func := "intaglio/intagliolaw23.PipeNobody", spec := "pipeNobody", inPlace := ["math/bits.Add64"], unfollowed := true, recurses := true, named := ["intaglio/sha.start", "intaglio/sha.cubes", "intaglio/chacha.rows"], plainKeys := false, apart := false, laid := [("intaglio/chacha.rows", laid_intaglio_chacha_rows), ("intaglio/sha.start", laid_intaglio_sha_start), ("intaglio/sha.cubes", laid_intaglio_sha_cubes)], narrowed := true }
def PipeNobodyUptoSaid : Prop := pipeNobodyUptoRow.holds Tryd.pinned (OpenSpec.upto pipeNobodySpec)

end Rows
end Go.Proofs.YtdgpchacfdlleaaDoor
