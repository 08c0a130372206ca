/-
  DERIVED. GIVEN WITH THE SEED: THE CARDS: each row of YtomialandfplkaaDoorRows.lean that lists a variable, with what it lists TIED to the program's text (the seventh form; the later family's looks); each row that meets fmt, with fmt's text TOLD by the authors' own Lean function (tested against real Go, not proved from fmt's source: count such statements apart). THE CARD IS WHAT COUNTS. Prove the row's statement (the work); the ties are given (YtomialandfplkaaDoorTie.lean); close each card by the builder's one call (the guide's Derived/Test/ToyasCard.lean, 'card_holds'). Laid BY PROGRAM, IN A SANDBOX (cutbox-door.mjs). By AI agents, Wed Nov 11 2026. No macro, syntax, notation, axiom, sorry.
-/
import Derived.Test.YtomialandfplkaaDoorRows
import GoSem.ClaimSeven
namespace Go.Proofs.YtomialandfplkaaDoor
namespace Rows

/-- THE TIED CARD OF 'tinsellaw01.BlocksNames'. -/
def blocksNamesCard : Claim7 := { stood := { row := blocksNamesRow, standIns := [], harness := (true, "354ff27202ec6f011a40a1293761bc7112658d75b82671e977ab72ca05e082d2"), looks := false }, kinds := [], alts := [], laidByText := true, laidKinds := [.data], laidTests := true, laidLooks := .later }
def BlocksNamesCardSaid : Prop := Claim7.holds Tryd.pinned (.plain (OpenSpec.ofChange blocksNamesSpec)) blocksNamesCard

/-- THE TIED CARD OF 'tinsellaw01.BlocksBack'. -/
def blocksBackCard : Claim7 := { stood := { row := blocksBackRow, standIns := [], harness := (true, "354ff27202ec6f011a40a1293761bc7112658d75b82671e977ab72ca05e082d2"), looks := false }, kinds := [], alts := [], laidByText := true, laidKinds := [.data], laidTests := true, laidLooks := .later }
def BlocksBackCardSaid : Prop := Claim7.holds Tryd.pinned (.plain (OpenSpec.ofChange blocksBackSpec)) blocksBackCard

/-- THE TIED CARD OF 'tinsellaw01.BlocksActs'. -/
def blocksActsCard : Claim7 := { stood := { row := blocksActsRow, standIns := [], harness := (true, "354ff27202ec6f011a40a1293761bc7112658d75b82671e977ab72ca05e082d2"), looks := false }, kinds := [], alts := [], laidByText := true, laidKinds := [.data], laidTests := true, laidLooks := .later }
def BlocksActsCardSaid : Prop := Claim7.holds Tryd.pinned (.plain (OpenSpec.ofChange blocksActsSpec)) blocksActsCard

/-- THE TIED CARD OF 'tinsellaw01.BlocksNone'. -/
def blocksNoneCard : Claim7 := { stood := { row := blocksNoneRow, standIns := [], harness := (true, "354ff27202ec6f011a40a1293761bc7112658d75b82671e977ab72ca05e082d2"), looks := false }, kinds := [], alts := [], laidByText := true, laidKinds := [.data], laidTests := true, laidLooks := .later }
def BlocksNoneCardSaid : Prop := Claim7.holds Tryd.pinned (.plain (OpenSpec.ofChange blocksNoneSpec)) blocksNoneCard

/-- THE TIED CARD OF 'tinsellaw02.InodeNames'. -/
def inodeNamesCard : Claim7 := { stood := { row := inodeNamesRow, standIns := [], harness := (true, "354ff27202ec6f011a40a1293761bc7112658d75b82671e977ab72ca05e082d2"), looks := false }, kinds := [], alts := [], laidByText := true, laidKinds := [.data], laidTests := true, laidLooks := .later }
def InodeNamesCardSaid : Prop := Claim7.holds Tryd.pinned (.plain (OpenSpec.ofChange inodeNamesSpec)) inodeNamesCard

/-- THE TIED CARD OF 'tinsellaw02.InodeShort'. -/
def inodeShortCard : Claim7 := { stood := { row := inodeShortRow, standIns := [], harness := (true, "354ff27202ec6f011a40a1293761bc7112658d75b82671e977ab72ca05e082d2"), looks := false }, kinds := [], alts := [], laidByText := true, laidKinds := [.data], laidTests := true, laidLooks := .later }
def InodeShortCardSaid : Prop := Claim7.holds Tryd.pinned (.plain (OpenSpec.ofChange inodeShortSpec)) inodeShortCard

/-- THE TIED CARD OF 'tinsellaw02.InodeBytes'. -/
def inodeBytesCard : Claim7 := { stood := { row := inodeBytesRow, standIns := [], harness := (true, "354ff27202ec6f011a40a1293761bc7112658d75b82671e977ab72ca05e082d2"), looks := false }, kinds := [], alts := [], laidByText := true, laidKinds := [.data], laidTests := true, laidLooks := .later }
def InodeBytesCardSaid : Prop := Claim7.holds Tryd.pinned (.plain (OpenSpec.ofChange inodeBytesSpec)) inodeBytesCard

/-- THE TIED CARD OF 'tinsellaw02.InodeNew'. -/
def inodeNewCard : Claim7 := { stood := { row := inodeNewRow, standIns := [], harness := (true, "354ff27202ec6f011a40a1293761bc7112658d75b82671e977ab72ca05e082d2"), looks := false }, kinds := [], alts := [], laidByText := true, laidKinds := [.data], laidTests := true, laidLooks := .later }
def InodeNewCardSaid : Prop := Claim7.holds Tryd.pinned (.plain (OpenSpec.ofChange inodeNewSpec)) inodeNewCard

/-- THE TIED CARD OF 'tinsellaw02.InodeSound'. -/
def inodeSoundCard : Claim7 := { stood := { row := inodeSoundRow, standIns := [], harness := (true, "354ff27202ec6f011a40a1293761bc7112658d75b82671e977ab72ca05e082d2"), looks := false }, kinds := [], alts := [], laidByText := true, laidKinds := [.data], laidTests := true, laidLooks := .later }
def InodeSoundCardSaid : Prop := Claim7.holds Tryd.pinned (.plain (OpenSpec.ofChange inodeSoundSpec)) inodeSoundCard

/-- THE TIED CARD OF 'tinsellaw02.InodeRuns'. -/
def inodeRunsCard : Claim7 := { stood := { row := inodeRunsRow, standIns := [], harness := (true, "354ff27202ec6f011a40a1293761bc7112658d75b82671e977ab72ca05e082d2"), looks := false }, kinds := [], alts := [], laidByText := true, laidKinds := [.data], laidTests := true, laidLooks := .later }
def InodeRunsCardSaid : Prop := Claim7.holds Tryd.pinned (.plain (OpenSpec.ofChange inodeRunsSpec)) inodeRunsCard

/-- THE TIED CARD OF 'tinsellaw02.InodeCopies'. -/
def inodeCopiesCard : Claim7 := { stood := { row := inodeCopiesRow, standIns := [], harness := (true, "354ff27202ec6f011a40a1293761bc7112658d75b82671e977ab72ca05e082d2"), looks := false }, kinds := [], alts := [], laidByText := true, laidKinds := [.data], laidTests := true, laidLooks := .later }
def InodeCopiesCardSaid : Prop := Claim7.holds Tryd.pinned (.plain (OpenSpec.ofChange inodeCopiesSpec)) inodeCopiesCard

/-- THE TIED CARD OF 'tinsellaw02.InodeNone'. -/
def inodeNoneCard : Claim7 := { stood := { row := inodeNoneRow, standIns := [], harness := (true, "354ff27202ec6f011a40a1293761bc7112658d75b82671e977ab72ca05e082d2"), looks := false }, kinds := [], alts := [], laidByText := true, laidKinds := [.data], laidTests := true, laidLooks := .later }
def InodeNoneCardSaid : Prop := Claim7.holds Tryd.pinned (.plain (OpenSpec.ofChange inodeNoneSpec)) inodeNoneCard

/-- THE SECOND FORM's CARD OF 'tinsellaw01.BlocksNames'. -/
def blocksNamesUptoCard : Claim7 := { stood := { row := blocksNamesUptoRow, standIns := [], harness := (true, "354ff27202ec6f011a40a1293761bc7112658d75b82671e977ab72ca05e082d2"), looks := false }, kinds := [], alts := [], laidByText := true, laidKinds := [.data], laidTests := true, laidLooks := .later }
def BlocksNamesUptoCardSaid : Prop := Claim7.holds Tryd.pinned (.plain (OpenSpec.upto blocksNamesSpec)) blocksNamesUptoCard

/-- THE SECOND FORM's CARD OF 'tinsellaw01.BlocksBack'. -/
def blocksBackUptoCard : Claim7 := { stood := { row := blocksBackUptoRow, standIns := [], harness := (true, "354ff27202ec6f011a40a1293761bc7112658d75b82671e977ab72ca05e082d2"), looks := false }, kinds := [], alts := [], laidByText := true, laidKinds := [.data], laidTests := true, laidLooks := .later }
def BlocksBackUptoCardSaid : Prop := Claim7.holds Tryd.pinned (.plain (OpenSpec.upto blocksBackSpec)) blocksBackUptoCard

/-- THE SECOND FORM's CARD OF 'tinsellaw01.BlocksActs'. -/
def blocksActsUptoCard : Claim7 := { stood := { row := blocksActsUptoRow, standIns := [], harness := (true, "354ff27202ec6f011a40a1293761bc7112658d75b82671e977ab72ca05e082d2"), looks := false }, kinds := [], alts := [], laidByText := true, laidKinds := [.data], laidTests := true, laidLooks := .later }
def BlocksActsUptoCardSaid : Prop := Claim7.holds Tryd.pinned (.plain (OpenSpec.upto blocksActsSpec)) blocksActsUptoCard

/-- THE SECOND FORM's CARD OF 'tinsellaw01.BlocksNone'. -/
def blocksNoneUptoCard : Claim7 := { stood := { row := blocksNoneUptoRow, standIns := [], harness := (true, "354ff27202ec6f011a40a1293761bc7112658d75b82671e977ab72ca05e082d2"), looks := false }, kinds := [], alts := [], laidByText := true, laidKinds := [.data], laidTests := true, laidLooks := .later }
def BlocksNoneUptoCardSaid : Prop := Claim7.holds Tryd.pinned (.plain (OpenSpec.upto blocksNoneSpec)) blocksNoneUptoCard

/-- THE SECOND FORM's CARD OF 'tinsellaw02.InodeNames'. -/
def inodeNamesUptoCard : Claim7 := { stood := { row := inodeNamesUptoRow, standIns := [], harness := (true, "354ff27202ec6f011a40a1293761bc7112658d75b82671e977ab72ca05e082d2"), looks := false }, kinds := [], alts := [], laidByText := true, laidKinds := [.data], laidTests := true, laidLooks := .later }
def InodeNamesUptoCardSaid : Prop := Claim7.holds Tryd.pinned (.plain (OpenSpec.upto inodeNamesSpec)) inodeNamesUptoCard

/-- THE SECOND FORM's CARD OF 'tinsellaw02.InodeShort'. -/
def inodeShortUptoCard : Claim7 := { stood := { row := inodeShortUptoRow, standIns := [], harness := (true, "354ff27202ec6f011a40a1293761bc7112658d75b82671e977ab72ca05e082d2"), looks := false }, kinds := [], alts := [], laidByText := true, laidKinds := [.data], laidTests := true, laidLooks := .later }
def InodeShortUptoCardSaid : Prop := Claim7.holds Tryd.pinned (.plain (OpenSpec.upto inodeShortSpec)) inodeShortUptoCard

/-- THE SECOND FORM's CARD OF 'tinsellaw02.InodeBytes'. -/
def inodeBytesUptoCard : Claim7 := { stood := { row := inodeBytesUptoRow, standIns := [], harness := (true, "354ff27202ec6f011a40a1293761bc7112658d75b82671e977ab72ca05e082d2"), looks := false }, kinds := [], alts := [], laidByText := true, laidKinds := [.data], laidTests := true, laidLooks := .later }
def InodeBytesUptoCardSaid : Prop := Claim7.holds Tryd.pinned (.plain (OpenSpec.upto inodeBytesSpec)) inodeBytesUptoCard

/-- THE SECOND FORM's CARD OF 'tinsellaw02.InodeNew'. -/
def inodeNewUptoCard : Claim7 := { stood := { row := inodeNewUptoRow, standIns := [], harness := (true, "354ff27202ec6f011a40a1293761bc7112658d75b82671e977ab72ca05e082d2"), looks := false }, kinds := [], alts := [], laidByText := true, laidKinds := [.data], laidTests := true, laidLooks := .later }
def InodeNewUptoCardSaid : Prop := Claim7.holds Tryd.pinned (.plain (OpenSpec.upto inodeNewSpec)) inodeNewUptoCard

/-- THE SECOND FORM's CARD OF 'tinsellaw02.InodeSound'. -/
def inodeSoundUptoCard : Claim7 := { stood := { row := inodeSoundUptoRow, standIns := [], harness := (true, "354ff27202ec6f011a40a1293761bc7112658d75b82671e977ab72ca05e082d2"), looks := false }, kinds := [], alts := [], laidByText := true, laidKinds := [.data], laidTests := true, laidLooks := .later }
def InodeSoundUptoCardSaid : Prop := Claim7.holds Tryd.pinned (.plain (OpenSpec.upto inodeSoundSpec)) inodeSoundUptoCard

/-- THE SECOND FORM's CARD OF 'tinsellaw02.InodeRuns'. -/
def inodeRunsUptoCard : Claim7 := { stood := { row := inodeRunsUptoRow, standIns := [], harness := (true, "354ff27202ec6f011a40a1293761bc7112658d75b82671e977ab72ca05e082d2"), looks := false }, kinds := [], alts := [], laidByText := true, laidKinds := [.data], laidTests := true, laidLooks := .later }
def InodeRunsUptoCardSaid : Prop := Claim7.holds Tryd.pinned (.plain (OpenSpec.upto inodeRunsSpec)) inodeRunsUptoCard

/-- THE SECOND FORM's CARD OF 'tinsellaw02.InodeCopies'. -/
def inodeCopiesUptoCard : Claim7 := { stood := { row := inodeCopiesUptoRow, standIns := [], harness := (true, "354ff27202ec6f011a40a1293761bc7112658d75b82671e977ab72ca05e082d2"), looks := false }, kinds := [], alts := [], laidByText := true, laidKinds := [.data], laidTests := true, laidLooks := .later }
def InodeCopiesUptoCardSaid : Prop := Claim7.holds Tryd.pinned (.plain (OpenSpec.upto inodeCopiesSpec)) inodeCopiesUptoCard

/-- THE SECOND FORM's CARD OF 'tinsellaw02.InodeNone'. -/
def inodeNoneUptoCard : Claim7 := { stood := { row := inodeNoneUptoRow, standIns := [], harness := (true, "354ff27202ec6f011a40a1293761bc7112658d75b82671e977ab72ca05e082d2"), looks := false }, kinds := [], alts := [], laidByText := true, laidKinds := [.data], laidTests := true, laidLooks := .later }
def InodeNoneUptoCardSaid : Prop := Claim7.holds Tryd.pinned (.plain (OpenSpec.upto inodeNoneSpec)) inodeNoneUptoCard
end Rows
end Go.Proofs.YtomialandfplkaaDoor
