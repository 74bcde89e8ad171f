/-
  DERIVED. GIVEN WITH THE SEED: THE CARDS: each row of YtljbnigceammdaaGreatDoorRows.lean that lists a variable, with what it lists TIED to the program's text (the seventh form; the later family's looks); each row that meets fmt, with fmt's text TOLD by the authors' own Lean function (tested against real Go, not proved from fmt's source: count such statements apart). THE CARD IS WHAT COUNTS. Prove the row's statement (the work); the ties are given (YtljbnigceammdaaGreatDoorTie.lean); close each card by the builder's one call (the guide's Derived/Test/ToyasCard.lean, 'card_holds'). Laid BY PROGRAM, IN A SANDBOX (cutbox-door.mjs). By AI agents, Wed Nov 11 2026. No macro, syntax, notation, axiom, sorry.
-/
import Derived.Test.YtljbnigceammdaaGreatDoorRows
import GoSem.ClaimSeven
namespace Go.Proofs.YtljbnigceammdaaGreatDoor
namespace Rows

/-- THE TIED CARD OF 'soughlaw51.DomTells'. -/
def domTellsCard : Claim7 := { stood := { row := domTellsRow, standIns := [], harness := (true, "563ab1ce310d2a0a19820f7a076a8d507789f318cd45bb362e2a9bb72f42afa5"), looks := false }, kinds := [], alts := [], laidByText := true, laidKinds := [.data], laidTests := true, laidLooks := .later }
def DomTellsCardSaid : Prop := Claim7.holds Tryz.pinned (.plain (OpenSpec.ofChange domTellsSpec)) domTellsCard

/-- THE TIED CARD OF 'soughlaw51.DomDepth'. -/
def domDepthCard : Claim7 := { stood := { row := domDepthRow, standIns := [], harness := (true, "563ab1ce310d2a0a19820f7a076a8d507789f318cd45bb362e2a9bb72f42afa5"), looks := false }, kinds := [], alts := [], laidByText := true, laidKinds := [.data], laidTests := true, laidLooks := .later }
def DomDepthCardSaid : Prop := Claim7.holds Tryz.pinned (.plain (OpenSpec.ofChange domDepthSpec)) domDepthCard

/-- THE TIED CARD OF 'soughlaw51.DomWays'. -/
def domWaysCard : Claim7 := { stood := { row := domWaysRow, standIns := [], harness := (true, "563ab1ce310d2a0a19820f7a076a8d507789f318cd45bb362e2a9bb72f42afa5"), looks := false }, kinds := [], alts := [], laidByText := true, laidKinds := [.data], laidTests := true, laidLooks := .later }
def DomWaysCardSaid : Prop := Claim7.holds Tryz.pinned (.plain (OpenSpec.ofChange domWaysSpec)) domWaysCard

/-- THE TIED CARD OF 'soughlaw52.LoopsNest'. -/
def loopsNestCard : Claim7 := { stood := { row := loopsNestRow, standIns := [], harness := (true, "563ab1ce310d2a0a19820f7a076a8d507789f318cd45bb362e2a9bb72f42afa5"), looks := false }, kinds := [], alts := [], laidByText := true, laidKinds := [.data], laidTests := true, laidLooks := .later }
def LoopsNestCardSaid : Prop := Claim7.holds Tryz.pinned (.plain (OpenSpec.ofChange loopsNestSpec)) loopsNestCard

/-- THE TIED CARD OF 'soughlaw52.LoopsTell'. -/
def loopsTellCard : Claim7 := { stood := { row := loopsTellRow, standIns := [], harness := (true, "563ab1ce310d2a0a19820f7a076a8d507789f318cd45bb362e2a9bb72f42afa5"), looks := false }, kinds := [], alts := [], laidByText := true, laidKinds := [.data], laidTests := true, laidLooks := .later }
def LoopsTellCardSaid : Prop := Claim7.holds Tryz.pinned (.plain (OpenSpec.ofChange loopsTellSpec)) loopsTellCard

/-- THE SECOND FORM's CARD OF 'soughlaw51.DomTells'. -/
def domTellsUptoCard : Claim7 := { stood := { row := domTellsUptoRow, standIns := [], harness := (true, "563ab1ce310d2a0a19820f7a076a8d507789f318cd45bb362e2a9bb72f42afa5"), looks := false }, kinds := [], alts := [], laidByText := true, laidKinds := [.data], laidTests := true, laidLooks := .later }
def DomTellsUptoCardSaid : Prop := Claim7.holds Tryz.pinned (.plain (OpenSpec.upto domTellsSpec)) domTellsUptoCard

/-- THE SECOND FORM's CARD OF 'soughlaw51.DomDepth'. -/
def domDepthUptoCard : Claim7 := { stood := { row := domDepthUptoRow, standIns := [], harness := (true, "563ab1ce310d2a0a19820f7a076a8d507789f318cd45bb362e2a9bb72f42afa5"), looks := false }, kinds := [], alts := [], laidByText := true, laidKinds := [.data], laidTests := true, laidLooks := .later }
def DomDepthUptoCardSaid : Prop := Claim7.holds Tryz.pinned (.plain (OpenSpec.upto domDepthSpec)) domDepthUptoCard

/-- THE SECOND FORM's CARD OF 'soughlaw51.DomWays'. -/
def domWaysUptoCard : Claim7 := { stood := { row := domWaysUptoRow, standIns := [], harness := (true, "563ab1ce310d2a0a19820f7a076a8d507789f318cd45bb362e2a9bb72f42afa5"), looks := false }, kinds := [], alts := [], laidByText := true, laidKinds := [.data], laidTests := true, laidLooks := .later }
def DomWaysUptoCardSaid : Prop := Claim7.holds Tryz.pinned (.plain (OpenSpec.upto domWaysSpec)) domWaysUptoCard

/-- THE SECOND FORM's CARD OF 'soughlaw52.LoopsNest'. -/
def loopsNestUptoCard : Claim7 := { stood := { row := loopsNestUptoRow, standIns := [], harness := (true, "563ab1ce310d2a0a19820f7a076a8d507789f318cd45bb362e2a9bb72f42afa5"), looks := false }, kinds := [], alts := [], laidByText := true, laidKinds := [.data], laidTests := true, laidLooks := .later }
def LoopsNestUptoCardSaid : Prop := Claim7.holds Tryz.pinned (.plain (OpenSpec.upto loopsNestSpec)) loopsNestUptoCard

/-- THE SECOND FORM's CARD OF 'soughlaw52.LoopsTell'. -/
def loopsTellUptoCard : Claim7 := { stood := { row := loopsTellUptoRow, standIns := [], harness := (true, "563ab1ce310d2a0a19820f7a076a8d507789f318cd45bb362e2a9bb72f42afa5"), looks := false }, kinds := [], alts := [], laidByText := true, laidKinds := [.data], laidTests := true, laidLooks := .later }
def LoopsTellUptoCardSaid : Prop := Claim7.holds Tryz.pinned (.plain (OpenSpec.upto loopsTellSpec)) loopsTellUptoCard
end Rows
end Go.Proofs.YtljbnigceammdaaGreatDoor
