/-
  DERIVED. GIVEN WITH THE SEED: THE CARDS: each row of YtpdbdobckjolkaaDoorRows.lean that lists a variable, with what it lists TIED to the program's text (the seventh form; the later family's looks); each row that meets fmt, with fmt's text TOLD by the authors' own Lean function (tested against real Go, not proved from fmt's source: count such statements apart). THE CARD IS WHAT COUNTS. Prove the row's statement (the work); the ties are given (YtpdbdobckjolkaaDoorTie.lean); close each card by the builder's one call (the guide's Derived/Test/ToyasCard.lean, 'card_holds'). Laid BY PROGRAM, IN A SANDBOX (cutbox-door.mjs). By AI agents, Wed Nov 11 2026. No macro, syntax, notation, axiom, sorry.
-/
import Derived.Test.YtpdbdobckjolkaaDoorRows
import GoSem.ClaimSeven
namespace Go.Proofs.YtpdbdobckjolkaaDoor
namespace Rows

/-- THE TIED CARD OF 'iceboxlaw25.RefsAll'. -/
def refsAllCard : Claim7 := { stood := { row := refsAllRow, standIns := [], harness := (true, "925d73091ce17d961ac0bd6d36362792aa6a898011a0b78cea4ac831cb411f95"), looks := true }, kinds := [], alts := [], laidByText := true, laidKinds := [.data, .data, .data, .sentinel, .sentinel], laidTests := true, laidLooks := .later }
def RefsAllCardSaid : Prop := Claim7.holds Tryd.pinned (.plain (OpenSpec.ofChange refsAllSpec)) refsAllCard

/-- THE TIED CARD OF 'iceboxlaw25.RefsMore'. -/
def refsMoreCard : Claim7 := { stood := { row := refsMoreRow, standIns := [], harness := (true, "925d73091ce17d961ac0bd6d36362792aa6a898011a0b78cea4ac831cb411f95"), looks := true }, kinds := [], alts := [], laidByText := true, laidKinds := [.data, .data, .data, .sentinel, .sentinel], laidTests := true, laidLooks := .later }
def RefsMoreCardSaid : Prop := Claim7.holds Tryd.pinned (.plain (OpenSpec.ofChange refsMoreSpec)) refsMoreCard

/-- THE SECOND FORM's CARD OF 'iceboxlaw25.RefsAll'. -/
def refsAllUptoCard : Claim7 := { stood := { row := refsAllUptoRow, standIns := [], harness := (true, "925d73091ce17d961ac0bd6d36362792aa6a898011a0b78cea4ac831cb411f95"), looks := true }, kinds := [], alts := [], laidByText := true, laidKinds := [.data, .data, .data, .sentinel, .sentinel], laidTests := true, laidLooks := .later }
def RefsAllUptoCardSaid : Prop := Claim7.holds Tryd.pinned (.plain (OpenSpec.upto refsAllSpec)) refsAllUptoCard

/-- THE SECOND FORM's CARD OF 'iceboxlaw25.RefsMore'. -/
def refsMoreUptoCard : Claim7 := { stood := { row := refsMoreUptoRow, standIns := [], harness := (true, "925d73091ce17d961ac0bd6d36362792aa6a898011a0b78cea4ac831cb411f95"), looks := true }, kinds := [], alts := [], laidByText := true, laidKinds := [.data, .data, .data, .sentinel, .sentinel], laidTests := true, laidLooks := .later }
def RefsMoreUptoCardSaid : Prop := Claim7.holds Tryd.pinned (.plain (OpenSpec.upto refsMoreSpec)) refsMoreUptoCard
end Rows
end Go.Proofs.YtpdbdobckjolkaaDoor
