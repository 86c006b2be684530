/-
  DERIVED. GIVEN WITH THE SEED: THE CARDS: each row of YtmmlnnbnbgaogaaDoorRows.lean that lists a variable, with what it lists TIED to the program's text (the seventh form; the later family's looks); each row that meets fmt, with fmt's text TOLD by the authors' own Lean function (tested against real Go, not proved from fmt's source: count such statements apart). THE CARD IS WHAT COUNTS. Prove the row's statement (the work); the ties are given (YtmmlnnbnbgaogaaDoorTie.lean); close each card by the builder's one call (the guide's Derived/Test/ToyasCard.lean, 'card_holds'). Laid BY PROGRAM, IN A SANDBOX (cutbox-door.mjs). By AI agents, Wed Nov 11 2026. No macro, syntax, notation, axiom, sorry.
-/
import Derived.Test.YtmmlnnbnbgaogaaDoorRows
import GoSem.ClaimSeven
namespace Go.Proofs.YtmmlnnbnbgaogaaDoor
namespace Rows

/-- THE TIED CARD OF 'quipulaw09.RuleBlanks'. -/
def ruleBlanksCard : Claim7 := { stood := { row := ruleBlanksRow, standIns := [], harness := (true, "b8d5a86820828e4901793c515170b3067bf070fa2132dd39ddd1b1502605d8e7"), looks := true }, kinds := [], alts := [], laidByText := true, laidKinds := [.data, .data, .data, .data, .sentinel, .sentinel, .pinned], laidTests := true, laidLooks := .later }
def RuleBlanksCardSaid : Prop := Claim7.holds Tryd.pinned (.plain (OpenSpec.ofChange ruleBlanksSpec)) ruleBlanksCard

/-- THE TIED CARD OF 'quipulaw09.RuleRests'. -/
def ruleRestsCard : Claim7 := { stood := { row := ruleRestsRow, standIns := [], harness := (true, "b8d5a86820828e4901793c515170b3067bf070fa2132dd39ddd1b1502605d8e7"), looks := true }, kinds := [], alts := [], laidByText := true, laidKinds := [.data, .data, .data, .data, .sentinel, .sentinel, .pinned], laidTests := true, laidLooks := .later }
def RuleRestsCardSaid : Prop := Claim7.holds Tryd.pinned (.plain (OpenSpec.ofChange ruleRestsSpec)) ruleRestsCard

/-- THE SECOND FORM's CARD OF 'quipulaw09.RuleBlanks'. -/
def ruleBlanksUptoCard : Claim7 := { stood := { row := ruleBlanksUptoRow, standIns := [], harness := (true, "b8d5a86820828e4901793c515170b3067bf070fa2132dd39ddd1b1502605d8e7"), looks := true }, kinds := [], alts := [], laidByText := true, laidKinds := [.data, .data, .data, .data, .sentinel, .sentinel, .pinned], laidTests := true, laidLooks := .later }
def RuleBlanksUptoCardSaid : Prop := Claim7.holds Tryd.pinned (.plain (OpenSpec.upto ruleBlanksSpec)) ruleBlanksUptoCard

/-- THE SECOND FORM's CARD OF 'quipulaw09.RuleRests'. -/
def ruleRestsUptoCard : Claim7 := { stood := { row := ruleRestsUptoRow, standIns := [], harness := (true, "b8d5a86820828e4901793c515170b3067bf070fa2132dd39ddd1b1502605d8e7"), looks := true }, kinds := [], alts := [], laidByText := true, laidKinds := [.data, .data, .data, .data, .sentinel, .sentinel, .pinned], laidTests := true, laidLooks := .later }
def RuleRestsUptoCardSaid : Prop := Claim7.holds Tryd.pinned (.plain (OpenSpec.upto ruleRestsSpec)) ruleRestsUptoCard
end Rows
end Go.Proofs.YtmmlnnbnbgaogaaDoor
