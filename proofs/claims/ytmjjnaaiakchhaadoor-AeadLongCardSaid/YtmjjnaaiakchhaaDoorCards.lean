/-
  DERIVED. GIVEN WITH THE SEED: THE CARDS: each row of YtmjjnaaiakchhaaDoorRows.lean that lists a variable, with what it lists TIED to the program's text (the seventh form; the later family's looks); each row that meets fmt, with fmt's text TOLD by the authors' own Lean function (tested against real Go, not proved from fmt's source: count such statements apart). THE CARD IS WHAT COUNTS. Prove the row's statement (the work); the ties are given (YtmjjnaaiakchhaaDoorTie.lean); close each card by the builder's one call (the guide's Derived/Test/ToyasCard.lean, 'card_holds'). Laid BY PROGRAM, IN A SANDBOX (cutbox-door.mjs). By AI agents, Wed Nov 11 2026. No macro, syntax, notation, axiom, sorry.
-/
import Derived.Test.YtmjjnaaiakchhaaDoorRows
import GoSem.ClaimSeven
namespace Go.Proofs.YtmjjnaaiakchhaaDoor
namespace Rows

/-- THE TIED CARD OF 'intagliolaw02.ChachaBlock'. -/
def chachaBlockCard : Claim7 := { stood := { row := chachaBlockRow, standIns := [], harness := (true, "7b269f9e02f9fba2d48333cb5d47b2a0d2743488416aced3b3cad48b7355bcb6"), looks := false }, kinds := [], alts := [], laidByText := true, laidKinds := [.data], laidTests := true, laidLooks := .later }
def ChachaBlockCardSaid : Prop := Claim7.holds Tryd.pinned (.plain (OpenSpec.ofChange chachaBlockSpec)) chachaBlockCard

/-- THE TIED CARD OF 'intagliolaw02.ChachaStreams'. -/
def chachaStreamsCard : Claim7 := { stood := { row := chachaStreamsRow, standIns := [], harness := (true, "7b269f9e02f9fba2d48333cb5d47b2a0d2743488416aced3b3cad48b7355bcb6"), looks := false }, kinds := [], alts := [], laidByText := true, laidKinds := [.data], laidTests := true, laidLooks := .later }
def ChachaStreamsCardSaid : Prop := Claim7.holds Tryd.pinned (.plain (OpenSpec.ofChange chachaStreamsSpec)) chachaStreamsCard

/-- THE TIED CARD OF 'intagliolaw02.ChachaEnds'. -/
def chachaEndsCard : Claim7 := { stood := { row := chachaEndsRow, standIns := [], harness := (true, "7b269f9e02f9fba2d48333cb5d47b2a0d2743488416aced3b3cad48b7355bcb6"), looks := false }, kinds := [], alts := [], laidByText := true, laidKinds := [.data], laidTests := true, laidLooks := .later }
def ChachaEndsCardSaid : Prop := Claim7.holds Tryd.pinned (.plain (OpenSpec.ofChange chachaEndsSpec)) chachaEndsCard

/-- THE TIED CARD OF 'intagliolaw02.ChachaTwice'. -/
def chachaTwiceCard : Claim7 := { stood := { row := chachaTwiceRow, standIns := [], harness := (true, "7b269f9e02f9fba2d48333cb5d47b2a0d2743488416aced3b3cad48b7355bcb6"), looks := false }, kinds := [], alts := [], laidByText := true, laidKinds := [.data], laidTests := true, laidLooks := .later }
def ChachaTwiceCardSaid : Prop := Claim7.holds Tryd.pinned (.plain (OpenSpec.ofChange chachaTwiceSpec)) chachaTwiceCard

/-- THE TIED CARD OF 'intagliolaw02.ChachaPieces'. -/
def chachaPiecesCard : Claim7 := { stood := { row := chachaPiecesRow, standIns := [], harness := (true, "7b269f9e02f9fba2d48333cb5d47b2a0d2743488416aced3b3cad48b7355bcb6"), looks := false }, kinds := [], alts := [], laidByText := true, laidKinds := [.data], laidTests := true, laidLooks := .later }
def ChachaPiecesCardSaid : Prop := Claim7.holds Tryd.pinned (.plain (OpenSpec.ofChange chachaPiecesSpec)) chachaPiecesCard

/-- THE TIED CARD OF 'intagliolaw02.ChachaXor'. -/
def chachaXorCard : Claim7 := { stood := { row := chachaXorRow, standIns := [], harness := (true, "7b269f9e02f9fba2d48333cb5d47b2a0d2743488416aced3b3cad48b7355bcb6"), looks := false }, kinds := [], alts := [], laidByText := true, laidKinds := [.data], laidTests := true, laidLooks := .later }
def ChachaXorCardSaid : Prop := Claim7.holds Tryd.pinned (.plain (OpenSpec.ofChange chachaXorSpec)) chachaXorCard

/-- THE TIED CARD OF 'intagliolaw04.AeadMarks'. -/
def aeadMarksCard : Claim7 := { stood := { row := aeadMarksRow, standIns := [], harness := (true, "7b269f9e02f9fba2d48333cb5d47b2a0d2743488416aced3b3cad48b7355bcb6"), looks := false }, kinds := [], alts := [], laidByText := true, laidKinds := [.data], laidTests := true, laidLooks := .later }
def AeadMarksCardSaid : Prop := Claim7.holds Tryd.pinned (.plain (OpenSpec.ofChange aeadMarksSpec)) aeadMarksCard

/-- THE TIED CARD OF 'intagliolaw04.AeadSame'. -/
def aeadSameCard : Claim7 := { stood := { row := aeadSameRow, standIns := [], harness := (true, "7b269f9e02f9fba2d48333cb5d47b2a0d2743488416aced3b3cad48b7355bcb6"), looks := false }, kinds := [], alts := [], laidByText := true, laidKinds := [.data], laidTests := true, laidLooks := .later }
def AeadSameCardSaid : Prop := Claim7.holds Tryd.pinned (.plain (OpenSpec.ofChange aeadSameSpec)) aeadSameCard

/-- THE TIED CARD OF 'intagliolaw04.AeadLong'. -/
def aeadLongCard : Claim7 := { stood := { row := aeadLongRow, standIns := [], harness := (true, "7b269f9e02f9fba2d48333cb5d47b2a0d2743488416aced3b3cad48b7355bcb6"), looks := false }, kinds := [], alts := [], laidByText := true, laidKinds := [.data], laidTests := true, laidLooks := .later }
def AeadLongCardSaid : Prop := Claim7.holds Tryd.pinned (.plain (OpenSpec.ofChange aeadLongSpec)) aeadLongCard

/-- THE TIED CARD OF 'intagliolaw04.AeadOpens'. -/
def aeadOpensCard : Claim7 := { stood := { row := aeadOpensRow, standIns := [], harness := (true, "7b269f9e02f9fba2d48333cb5d47b2a0d2743488416aced3b3cad48b7355bcb6"), looks := false }, kinds := [], alts := [], laidByText := true, laidKinds := [.data], laidTests := true, laidLooks := .later }
def AeadOpensCardSaid : Prop := Claim7.holds Tryd.pinned (.plain (OpenSpec.ofChange aeadOpensSpec)) aeadOpensCard

/-- THE TIED CARD OF 'intagliolaw04.AeadBack'. -/
def aeadBackCard : Claim7 := { stood := { row := aeadBackRow, standIns := [], harness := (true, "7b269f9e02f9fba2d48333cb5d47b2a0d2743488416aced3b3cad48b7355bcb6"), looks := false }, kinds := [], alts := [], laidByText := true, laidKinds := [.data], laidTests := true, laidLooks := .later }
def AeadBackCardSaid : Prop := Claim7.holds Tryd.pinned (.plain (OpenSpec.ofChange aeadBackSpec)) aeadBackCard

/-- THE TIED CARD OF 'intagliolaw04.AeadSeals'. -/
def aeadSealsCard : Claim7 := { stood := { row := aeadSealsRow, standIns := [], harness := (true, "7b269f9e02f9fba2d48333cb5d47b2a0d2743488416aced3b3cad48b7355bcb6"), looks := false }, kinds := [], alts := [], laidByText := true, laidKinds := [.data], laidTests := true, laidLooks := .later }
def AeadSealsCardSaid : Prop := Claim7.holds Tryd.pinned (.plain (OpenSpec.ofChange aeadSealsSpec)) aeadSealsCard

/-- THE SECOND FORM's CARD OF 'intagliolaw02.ChachaBlock'. -/
def chachaBlockUptoCard : Claim7 := { stood := { row := chachaBlockUptoRow, standIns := [], harness := (true, "7b269f9e02f9fba2d48333cb5d47b2a0d2743488416aced3b3cad48b7355bcb6"), looks := false }, kinds := [], alts := [], laidByText := true, laidKinds := [.data], laidTests := true, laidLooks := .later }
def ChachaBlockUptoCardSaid : Prop := Claim7.holds Tryd.pinned (.plain (OpenSpec.upto chachaBlockSpec)) chachaBlockUptoCard

/-- THE SECOND FORM's CARD OF 'intagliolaw02.ChachaStreams'. -/
def chachaStreamsUptoCard : Claim7 := { stood := { row := chachaStreamsUptoRow, standIns := [], harness := (true, "7b269f9e02f9fba2d48333cb5d47b2a0d2743488416aced3b3cad48b7355bcb6"), looks := false }, kinds := [], alts := [], laidByText := true, laidKinds := [.data], laidTests := true, laidLooks := .later }
def ChachaStreamsUptoCardSaid : Prop := Claim7.holds Tryd.pinned (.plain (OpenSpec.upto chachaStreamsSpec)) chachaStreamsUptoCard

/-- THE SECOND FORM's CARD OF 'intagliolaw02.ChachaEnds'. -/
def chachaEndsUptoCard : Claim7 := { stood := { row := chachaEndsUptoRow, standIns := [], harness := (true, "7b269f9e02f9fba2d48333cb5d47b2a0d2743488416aced3b3cad48b7355bcb6"), looks := false }, kinds := [], alts := [], laidByText := true, laidKinds := [.data], laidTests := true, laidLooks := .later }
def ChachaEndsUptoCardSaid : Prop := Claim7.holds Tryd.pinned (.plain (OpenSpec.upto chachaEndsSpec)) chachaEndsUptoCard

/-- THE SECOND FORM's CARD OF 'intagliolaw02.ChachaTwice'. -/
def chachaTwiceUptoCard : Claim7 := { stood := { row := chachaTwiceUptoRow, standIns := [], harness := (true, "7b269f9e02f9fba2d48333cb5d47b2a0d2743488416aced3b3cad48b7355bcb6"), looks := false }, kinds := [], alts := [], laidByText := true, laidKinds := [.data], laidTests := true, laidLooks := .later }
def ChachaTwiceUptoCardSaid : Prop := Claim7.holds Tryd.pinned (.plain (OpenSpec.upto chachaTwiceSpec)) chachaTwiceUptoCard

/-- THE SECOND FORM's CARD OF 'intagliolaw02.ChachaPieces'. -/
def chachaPiecesUptoCard : Claim7 := { stood := { row := chachaPiecesUptoRow, standIns := [], harness := (true, "7b269f9e02f9fba2d48333cb5d47b2a0d2743488416aced3b3cad48b7355bcb6"), looks := false }, kinds := [], alts := [], laidByText := true, laidKinds := [.data], laidTests := true, laidLooks := .later }
def ChachaPiecesUptoCardSaid : Prop := Claim7.holds Tryd.pinned (.plain (OpenSpec.upto chachaPiecesSpec)) chachaPiecesUptoCard

/-- THE SECOND FORM's CARD OF 'intagliolaw02.ChachaXor'. -/
def chachaXorUptoCard : Claim7 := { stood := { row := chachaXorUptoRow, standIns := [], harness := (true, "7b269f9e02f9fba2d48333cb5d47b2a0d2743488416aced3b3cad48b7355bcb6"), looks := false }, kinds := [], alts := [], laidByText := true, laidKinds := [.data], laidTests := true, laidLooks := .later }
def ChachaXorUptoCardSaid : Prop := Claim7.holds Tryd.pinned (.plain (OpenSpec.upto chachaXorSpec)) chachaXorUptoCard

/-- THE SECOND FORM's CARD OF 'intagliolaw04.AeadMarks'. -/
def aeadMarksUptoCard : Claim7 := { stood := { row := aeadMarksUptoRow, standIns := [], harness := (true, "7b269f9e02f9fba2d48333cb5d47b2a0d2743488416aced3b3cad48b7355bcb6"), looks := false }, kinds := [], alts := [], laidByText := true, laidKinds := [.data], laidTests := true, laidLooks := .later }
def AeadMarksUptoCardSaid : Prop := Claim7.holds Tryd.pinned (.plain (OpenSpec.upto aeadMarksSpec)) aeadMarksUptoCard

/-- THE SECOND FORM's CARD OF 'intagliolaw04.AeadSame'. -/
def aeadSameUptoCard : Claim7 := { stood := { row := aeadSameUptoRow, standIns := [], harness := (true, "7b269f9e02f9fba2d48333cb5d47b2a0d2743488416aced3b3cad48b7355bcb6"), looks := false }, kinds := [], alts := [], laidByText := true, laidKinds := [.data], laidTests := true, laidLooks := .later }
def AeadSameUptoCardSaid : Prop := Claim7.holds Tryd.pinned (.plain (OpenSpec.upto aeadSameSpec)) aeadSameUptoCard

/-- THE SECOND FORM's CARD OF 'intagliolaw04.AeadLong'. -/
def aeadLongUptoCard : Claim7 := { stood := { row := aeadLongUptoRow, standIns := [], harness := (true, "7b269f9e02f9fba2d48333cb5d47b2a0d2743488416aced3b3cad48b7355bcb6"), looks := false }, kinds := [], alts := [], laidByText := true, laidKinds := [.data], laidTests := true, laidLooks := .later }
def AeadLongUptoCardSaid : Prop := Claim7.holds Tryd.pinned (.plain (OpenSpec.upto aeadLongSpec)) aeadLongUptoCard

/-- THE SECOND FORM's CARD OF 'intagliolaw04.AeadOpens'. -/
def aeadOpensUptoCard : Claim7 := { stood := { row := aeadOpensUptoRow, standIns := [], harness := (true, "7b269f9e02f9fba2d48333cb5d47b2a0d2743488416aced3b3cad48b7355bcb6"), looks := false }, kinds := [], alts := [], laidByText := true, laidKinds := [.data], laidTests := true, laidLooks := .later }
def AeadOpensUptoCardSaid : Prop := Claim7.holds Tryd.pinned (.plain (OpenSpec.upto aeadOpensSpec)) aeadOpensUptoCard

/-- THE SECOND FORM's CARD OF 'intagliolaw04.AeadBack'. -/
def aeadBackUptoCard : Claim7 := { stood := { row := aeadBackUptoRow, standIns := [], harness := (true, "7b269f9e02f9fba2d48333cb5d47b2a0d2743488416aced3b3cad48b7355bcb6"), looks := false }, kinds := [], alts := [], laidByText := true, laidKinds := [.data], laidTests := true, laidLooks := .later }
def AeadBackUptoCardSaid : Prop := Claim7.holds Tryd.pinned (.plain (OpenSpec.upto aeadBackSpec)) aeadBackUptoCard

/-- THE SECOND FORM's CARD OF 'intagliolaw04.AeadSeals'. -/
def aeadSealsUptoCard : Claim7 := { stood := { row := aeadSealsUptoRow, standIns := [], harness := (true, "7b269f9e02f9fba2d48333cb5d47b2a0d2743488416aced3b3cad48b7355bcb6"), looks := false }, kinds := [], alts := [], laidByText := true, laidKinds := [.data], laidTests := true, laidLooks := .later }
def AeadSealsUptoCardSaid : Prop := Claim7.holds Tryd.pinned (.plain (OpenSpec.upto aeadSealsSpec)) aeadSealsUptoCard
end Rows
end Go.Proofs.YtmjjnaaiakchhaaDoor
