/-
  DERIVED. GIVEN WITH THE SEED: THE CARDS: each row of YtjlmcidmcdiklaaDoorRows.lean that lists a variable, with what it lists TIED to the program's text (the seventh form; the later family's looks); each row that meets fmt, with fmt's text TOLD by the authors' own Lean function (tested against real Go, not proved from fmt's source: count such statements apart). THE CARD IS WHAT COUNTS. Prove the row's statement (the work); the ties are given (YtjlmcidmcdiklaaDoorTie.lean); close each card by the builder's one call (the guide's Derived/Test/ToyasCard.lean, 'card_holds'). Laid BY PROGRAM, IN A SANDBOX (cutbox-door.mjs). By AI agents, Wed Nov 11 2026. No macro, syntax, notation, axiom, sorry.
-/
import Derived.Test.YtjlmcidmcdiklaaDoorRows
import GoSem.ClaimSeven
namespace Go.Proofs.YtjlmcidmcdiklaaDoor
namespace Rows

/-- THE TIED CARD OF 'iceboxlaw19.NameAll'. -/
def nameAllCard : Claim7 := { stood := { row := nameAllRow, standIns := [], harness := (true, "602ce01dd233560f4ee55ab0fdf501c237a0bfff38e7d0f6d326e002d90c04e3"), looks := true }, kinds := [], alts := [], laidByText := true, laidKinds := [.data, .data, .data, .sentinel, .sentinel], laidTests := true, laidLooks := .later }
def NameAllCardSaid : Prop := Claim7.holds Tryd.pinned (.plain (OpenSpec.ofChange nameAllSpec)) nameAllCard

/-- THE TIED CARD OF 'iceboxlaw19.NameBack'. -/
def nameBackCard : Claim7 := { stood := { row := nameBackRow, standIns := [], harness := (true, "602ce01dd233560f4ee55ab0fdf501c237a0bfff38e7d0f6d326e002d90c04e3"), looks := true }, kinds := [], alts := [], laidByText := true, laidKinds := [.data, .data, .data, .sentinel, .sentinel], laidTests := true, laidLooks := .later }
def NameBackCardSaid : Prop := Claim7.holds Tryd.pinned (.plain (OpenSpec.ofChange nameBackSpec)) nameBackCard

/-- THE TIED CARD OF 'iceboxlaw19.NameNone'. -/
def nameNoneCard : Claim7 := { stood := { row := nameNoneRow, standIns := [], harness := (true, "602ce01dd233560f4ee55ab0fdf501c237a0bfff38e7d0f6d326e002d90c04e3"), looks := true }, kinds := [], alts := [], laidByText := true, laidKinds := [.data, .data, .data, .sentinel, .sentinel], laidTests := true, laidLooks := .later }
def NameNoneCardSaid : Prop := Claim7.holds Tryd.pinned (.plain (OpenSpec.ofChange nameNoneSpec)) nameNoneCard

/-- THE SECOND FORM's CARD OF 'iceboxlaw19.NameAll'. -/
def nameAllUptoCard : Claim7 := { stood := { row := nameAllUptoRow, standIns := [], harness := (true, "602ce01dd233560f4ee55ab0fdf501c237a0bfff38e7d0f6d326e002d90c04e3"), looks := true }, kinds := [], alts := [], laidByText := true, laidKinds := [.data, .data, .data, .sentinel, .sentinel], laidTests := true, laidLooks := .later }
def NameAllUptoCardSaid : Prop := Claim7.holds Tryd.pinned (.plain (OpenSpec.upto nameAllSpec)) nameAllUptoCard

/-- THE SECOND FORM's CARD OF 'iceboxlaw19.NameBack'. -/
def nameBackUptoCard : Claim7 := { stood := { row := nameBackUptoRow, standIns := [], harness := (true, "602ce01dd233560f4ee55ab0fdf501c237a0bfff38e7d0f6d326e002d90c04e3"), looks := true }, kinds := [], alts := [], laidByText := true, laidKinds := [.data, .data, .data, .sentinel, .sentinel], laidTests := true, laidLooks := .later }
def NameBackUptoCardSaid : Prop := Claim7.holds Tryd.pinned (.plain (OpenSpec.upto nameBackSpec)) nameBackUptoCard

/-- THE SECOND FORM's CARD OF 'iceboxlaw19.NameNone'. -/
def nameNoneUptoCard : Claim7 := { stood := { row := nameNoneUptoRow, standIns := [], harness := (true, "602ce01dd233560f4ee55ab0fdf501c237a0bfff38e7d0f6d326e002d90c04e3"), looks := true }, kinds := [], alts := [], laidByText := true, laidKinds := [.data, .data, .data, .sentinel, .sentinel], laidTests := true, laidLooks := .later }
def NameNoneUptoCardSaid : Prop := Claim7.holds Tryd.pinned (.plain (OpenSpec.upto nameNoneSpec)) nameNoneUptoCard
end Rows
end Go.Proofs.YtjlmcidmcdiklaaDoor
