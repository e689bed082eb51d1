/-
  DERIVED. GIVEN WITH THE SEED: THE CARDS: each row of YtdgpchacfdlleaaDoorRows.lean that lists a variable, with what it lists TIED to the program's text (the seventh form; the later family's looks); each row that meets fmt, with fmt's text TOLD by the authors' own Lean function (tested against real Go, not proved from fmt's source: count such statements apart). THE CARD IS WHAT COUNTS. Prove the row's statement (the work); the ties are given (YtdgpchacfdlleaaDoorTie.lean); close each card by the builder's one call (the guide's Derived/Test/ToyasCard.lean, 'card_holds'). Laid BY PROGRAM, IN A SANDBOX (cutbox-door.mjs). By AI agents, Wed Nov 11 2026. No macro, syntax, notation, axiom, sorry.
-/
import Derived.Test.YtdgpchacfdlleaaDoorRows
import GoSem.ClaimSeven
namespace Go.Proofs.YtdgpchacfdlleaaDoor
namespace Rows

/-- THE TIED CARD OF 'intagliolaw08.BoxBack'. -/
def boxBackCard : Claim7 := { stood := { row := boxBackRow, standIns := [], harness := (true, "3c5e53fb341b82bc06a0863a3dcad44badc089e91561695d4ed94125c8c557c0"), looks := false }, kinds := [], alts := [], laidByText := true, laidKinds := [.data, .data, .data], laidTests := true, laidLooks := .later }
def BoxBackCardSaid : Prop := Claim7.holds Tryd.pinned (.plain (OpenSpec.ofChange boxBackSpec)) boxBackCard

/-- THE TIED CARD OF 'intagliolaw08.BoxForged'. -/
def boxForgedCard : Claim7 := { stood := { row := boxForgedRow, standIns := [], harness := (true, "3c5e53fb341b82bc06a0863a3dcad44badc089e91561695d4ed94125c8c557c0"), looks := false }, kinds := [], alts := [], laidByText := true, laidKinds := [.data, .data, .data], laidTests := true, laidLooks := .later }
def BoxForgedCardSaid : Prop := Claim7.holds Tryd.pinned (.plain (OpenSpec.ofChange boxForgedSpec)) boxForgedCard

/-- THE TIED CARD OF 'intagliolaw08.BoxMarked'. -/
def boxMarkedCard : Claim7 := { stood := { row := boxMarkedRow, standIns := [], harness := (true, "3c5e53fb341b82bc06a0863a3dcad44badc089e91561695d4ed94125c8c557c0"), looks := false }, kinds := [], alts := [], laidByText := true, laidKinds := [.data, .data, .data], laidTests := true, laidLooks := .later }
def BoxMarkedCardSaid : Prop := Claim7.holds Tryd.pinned (.plain (OpenSpec.ofChange boxMarkedSpec)) boxMarkedCard

/-- THE TIED CARD OF 'intagliolaw08.BoxReal'. -/
def boxRealCard : Claim7 := { stood := { row := boxRealRow, standIns := [], harness := (true, "3c5e53fb341b82bc06a0863a3dcad44badc089e91561695d4ed94125c8c557c0"), looks := false }, kinds := [], alts := [], laidByText := true, laidKinds := [.data, .data, .data], laidTests := true, laidLooks := .later }
def BoxRealCardSaid : Prop := Claim7.holds Tryd.pinned (.plain (OpenSpec.ofChange boxRealSpec)) boxRealCard

/-- THE TIED CARD OF 'intagliolaw08.BoxNobody'. -/
def boxNobodyCard : Claim7 := { stood := { row := boxNobodyRow, standIns := [], harness := (true, "3c5e53fb341b82bc06a0863a3dcad44badc089e91561695d4ed94125c8c557c0"), looks := false }, kinds := [], alts := [], laidByText := true, laidKinds := [.data, .data, .data], laidTests := true, laidLooks := .later }
def BoxNobodyCardSaid : Prop := Claim7.holds Tryd.pinned (.plain (OpenSpec.ofChange boxNobodySpec)) boxNobodyCard

/-- THE TIED CARD OF 'intagliolaw23.PipeBoth'. -/
def pipeBothCard : Claim7 := { stood := { row := pipeBothRow, standIns := [], harness := (true, "3c5e53fb341b82bc06a0863a3dcad44badc089e91561695d4ed94125c8c557c0"), looks := false }, kinds := [], alts := [], laidByText := true, laidKinds := [.data, .data, .data], laidTests := true, laidLooks := .later }
def PipeBothCardSaid : Prop := Claim7.holds Tryd.pinned (.plain (OpenSpec.ofChange pipeBothSpec)) pipeBothCard

/-- THE TIED CARD OF 'intagliolaw23.PipePrefix'. -/
def pipePrefixCard : Claim7 := { stood := { row := pipePrefixRow, standIns := [], harness := (true, "3c5e53fb341b82bc06a0863a3dcad44badc089e91561695d4ed94125c8c557c0"), looks := false }, kinds := [], alts := [], laidByText := true, laidKinds := [.data, .data, .data], laidTests := true, laidLooks := .later }
def PipePrefixCardSaid : Prop := Claim7.holds Tryd.pinned (.plain (OpenSpec.ofChange pipePrefixSpec)) pipePrefixCard

/-- THE TIED CARD OF 'intagliolaw22.ShakeAgree'. -/
def shakeAgreeCard : Claim7 := { stood := { row := shakeAgreeRow, standIns := [], harness := (true, "3c5e53fb341b82bc06a0863a3dcad44badc089e91561695d4ed94125c8c557c0"), looks := false }, kinds := [], alts := [], laidByText := true, laidKinds := [.data, .data, .data], laidTests := true, laidLooks := .later }
def ShakeAgreeCardSaid : Prop := Claim7.holds Tryd.pinned (.plain (OpenSpec.ofChange shakeAgreeSpec)) shakeAgreeCard

/-- THE TIED CARD OF 'intagliolaw22.ShakeNobody'. -/
def shakeNobodyCard : Claim7 := { stood := { row := shakeNobodyRow, standIns := [], harness := (true, "3c5e53fb341b82bc06a0863a3dcad44badc089e91561695d4ed94125c8c557c0"), looks := false }, kinds := [], alts := [], laidByText := true, laidKinds := [.data, .data, .data], laidTests := true, laidLooks := .later }
def ShakeNobodyCardSaid : Prop := Claim7.holds Tryd.pinned (.plain (OpenSpec.ofChange shakeNobodySpec)) shakeNobodyCard

/-- THE TIED CARD OF 'intagliolaw22.ShakeBack'. -/
def shakeBackCard : Claim7 := { stood := { row := shakeBackRow, standIns := [], harness := (true, "3c5e53fb341b82bc06a0863a3dcad44badc089e91561695d4ed94125c8c557c0"), looks := false }, kinds := [], alts := [], laidByText := true, laidKinds := [.data, .data, .data], laidTests := true, laidLooks := .later }
def ShakeBackCardSaid : Prop := Claim7.holds Tryd.pinned (.plain (OpenSpec.ofChange shakeBackSpec)) shakeBackCard

/-- THE TIED CARD OF 'intagliolaw23.PipeOnce'. -/
def pipeOnceCard : Claim7 := { stood := { row := pipeOnceRow, standIns := [], harness := (true, "3c5e53fb341b82bc06a0863a3dcad44badc089e91561695d4ed94125c8c557c0"), looks := false }, kinds := [], alts := [], laidByText := true, laidKinds := [.data, .data, .data], laidTests := true, laidLooks := .later }
def PipeOnceCardSaid : Prop := Claim7.holds Tryd.pinned (.plain (OpenSpec.ofChange pipeOnceSpec)) pipeOnceCard

/-- THE TIED CARD OF 'intagliolaw23.PipeNobody'. -/
def pipeNobodyCard : Claim7 := { stood := { row := pipeNobodyRow, standIns := [], harness := (true, "3c5e53fb341b82bc06a0863a3dcad44badc089e91561695d4ed94125c8c557c0"), looks := false }, kinds := [], alts := [], laidByText := true, laidKinds := [.data, .data, .data], laidTests := true, laidLooks := .later }
def PipeNobodyCardSaid : Prop := Claim7.holds Tryd.pinned (.plain (OpenSpec.ofChange pipeNobodySpec)) pipeNobodyCard

/-- THE SECOND FORM's CARD OF 'intagliolaw08.BoxBack'. -/
def boxBackUptoCard : Claim7 := { stood := { row := boxBackUptoRow, standIns := [], harness := (true, "3c5e53fb341b82bc06a0863a3dcad44badc089e91561695d4ed94125c8c557c0"), looks := false }, kinds := [], alts := [], laidByText := true, laidKinds := [.data, .data, .data], laidTests := true, laidLooks := .later }
def BoxBackUptoCardSaid : Prop := Claim7.holds Tryd.pinned (.plain (OpenSpec.upto boxBackSpec)) boxBackUptoCard

/-- THE SECOND FORM's CARD OF 'intagliolaw08.BoxForged'. -/
def boxForgedUptoCard : Claim7 := { stood := { row := boxForgedUptoRow, standIns := [], harness := (true, "3c5e53fb341b82bc06a0863a3dcad44badc089e91561695d4ed94125c8c557c0"), looks := false }, kinds := [], alts := [], laidByText := true, laidKinds := [.data, .data, .data], laidTests := true, laidLooks := .later }
def BoxForgedUptoCardSaid : Prop := Claim7.holds Tryd.pinned (.plain (OpenSpec.upto boxForgedSpec)) boxForgedUptoCard

/-- THE SECOND FORM's CARD OF 'intagliolaw08.BoxMarked'. -/
def boxMarkedUptoCard : Claim7 := { stood := { row := boxMarkedUptoRow, standIns := [], harness := (true, "3c5e53fb341b82bc06a0863a3dcad44badc089e91561695d4ed94125c8c557c0"), looks := false }, kinds := [], alts := [], laidByText := true, laidKinds := [.data, .data, .data], laidTests := true, laidLooks := .later }
def BoxMarkedUptoCardSaid : Prop := Claim7.holds Tryd.pinned (.plain (OpenSpec.upto boxMarkedSpec)) boxMarkedUptoCard

/-- THE SECOND FORM's CARD OF 'intagliolaw08.BoxReal'. -/
def boxRealUptoCard : Claim7 := { stood := { row := boxRealUptoRow, standIns := [], harness := (true, "3c5e53fb341b82bc06a0863a3dcad44badc089e91561695d4ed94125c8c557c0"), looks := false }, kinds := [], alts := [], laidByText := true, laidKinds := [.data, .data, .data], laidTests := true, laidLooks := .later }
def BoxRealUptoCardSaid : Prop := Claim7.holds Tryd.pinned (.plain (OpenSpec.upto boxRealSpec)) boxRealUptoCard

/-- THE SECOND FORM's CARD OF 'intagliolaw08.BoxNobody'. -/
def boxNobodyUptoCard : Claim7 := { stood := { row := boxNobodyUptoRow, standIns := [], harness := (true, "3c5e53fb341b82bc06a0863a3dcad44badc089e91561695d4ed94125c8c557c0"), looks := false }, kinds := [], alts := [], laidByText := true, laidKinds := [.data, .data, .data], laidTests := true, laidLooks := .later }
def BoxNobodyUptoCardSaid : Prop := Claim7.holds Tryd.pinned (.plain (OpenSpec.upto boxNobodySpec)) boxNobodyUptoCard

/-- THE SECOND FORM's CARD OF 'intagliolaw23.PipeBoth'. -/
def pipeBothUptoCard : Claim7 := { stood := { row := pipeBothUptoRow, standIns := [], harness := (true, "3c5e53fb341b82bc06a0863a3dcad44badc089e91561695d4ed94125c8c557c0"), looks := false }, kinds := [], alts := [], laidByText := true, laidKinds := [.data, .data, .data], laidTests := true, laidLooks := .later }
def PipeBothUptoCardSaid : Prop := Claim7.holds Tryd.pinned (.plain (OpenSpec.upto pipeBothSpec)) pipeBothUptoCard

/-- THE SECOND FORM's CARD OF 'intagliolaw23.PipePrefix'. -/
def pipePrefixUptoCard : Claim7 := { stood := { row := pipePrefixUptoRow, standIns := [], harness := (true, "3c5e53fb341b82bc06a0863a3dcad44badc089e91561695d4ed94125c8c557c0"), looks := false }, kinds := [], alts := [], laidByText := true, laidKinds := [.data, .data, .data], laidTests := true, laidLooks := .later }
def PipePrefixUptoCardSaid : Prop := Claim7.holds Tryd.pinned (.plain (OpenSpec.upto pipePrefixSpec)) pipePrefixUptoCard

/-- THE SECOND FORM's CARD OF 'intagliolaw22.ShakeAgree'. -/
def shakeAgreeUptoCard : Claim7 := { stood := { row := shakeAgreeUptoRow, standIns := [], harness := (true, "3c5e53fb341b82bc06a0863a3dcad44badc089e91561695d4ed94125c8c557c0"), looks := false }, kinds := [], alts := [], laidByText := true, laidKinds := [.data, .data, .data], laidTests := true, laidLooks := .later }
def ShakeAgreeUptoCardSaid : Prop := Claim7.holds Tryd.pinned (.plain (OpenSpec.upto shakeAgreeSpec)) shakeAgreeUptoCard

/-- THE SECOND FORM's CARD OF 'intagliolaw22.ShakeNobody'. -/
def shakeNobodyUptoCard : Claim7 := { stood := { row := shakeNobodyUptoRow, standIns := [], harness := (true, "3c5e53fb341b82bc06a0863a3dcad44badc089e91561695d4ed94125c8c557c0"), looks := false }, kinds := [], alts := [], laidByText := true, laidKinds := [.data, .data, .data], laidTests := true, laidLooks := .later }
def ShakeNobodyUptoCardSaid : Prop := Claim7.holds Tryd.pinned (.plain (OpenSpec.upto shakeNobodySpec)) shakeNobodyUptoCard

/-- THE SECOND FORM's CARD OF 'intagliolaw22.ShakeBack'. -/
def shakeBackUptoCard : Claim7 := { stood := { row := shakeBackUptoRow, standIns := [], harness := (true, "3c5e53fb341b82bc06a0863a3dcad44badc089e91561695d4ed94125c8c557c0"), looks := false }, kinds := [], alts := [], laidByText := true, laidKinds := [.data, .data, .data], laidTests := true, laidLooks := .later }
def ShakeBackUptoCardSaid : Prop := Claim7.holds Tryd.pinned (.plain (OpenSpec.upto shakeBackSpec)) shakeBackUptoCard

/-- THE SECOND FORM's CARD OF 'intagliolaw23.PipeOnce'. -/
def pipeOnceUptoCard : Claim7 := { stood := { row := pipeOnceUptoRow, standIns := [], harness := (true, "3c5e53fb341b82bc06a0863a3dcad44badc089e91561695d4ed94125c8c557c0"), looks := false }, kinds := [], alts := [], laidByText := true, laidKinds := [.data, .data, .data], laidTests := true, laidLooks := .later }
def PipeOnceUptoCardSaid : Prop := Claim7.holds Tryd.pinned (.plain (OpenSpec.upto pipeOnceSpec)) pipeOnceUptoCard

/-- THE SECOND FORM's CARD OF 'intagliolaw23.PipeNobody'. -/
def pipeNobodyUptoCard : Claim7 := { stood := { row := pipeNobodyUptoRow, standIns := [], harness := (true, "3c5e53fb341b82bc06a0863a3dcad44badc089e91561695d4ed94125c8c557c0"), looks := false }, kinds := [], alts := [], laidByText := true, laidKinds := [.data, .data, .data], laidTests := true, laidLooks := .later }
def PipeNobodyUptoCardSaid : Prop := Claim7.holds Tryd.pinned (.plain (OpenSpec.upto pipeNobodySpec)) pipeNobodyUptoCard
end Rows
end Go.Proofs.YtdgpchacfdlleaaDoor
