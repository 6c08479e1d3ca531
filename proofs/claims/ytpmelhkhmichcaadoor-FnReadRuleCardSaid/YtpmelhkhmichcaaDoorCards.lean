/-
  DERIVED. GIVEN WITH THE SEED: THE CARDS: each row of YtpmelhkhmichcaaDoorRows.lean that lists a variable, with what it lists TIED to the program's text (the seventh form; the later family's looks); each row that meets fmt, with fmt's text TOLD by the authors' own Lean function (tested against real Go, not proved from fmt's source: count such statements apart). THE CARD IS WHAT COUNTS. Prove the row's statement (the work); the ties are given (YtpmelhkhmichcaaDoorTie.lean); close each card by the builder's one call (the guide's Derived/Test/ToyasCard.lean, 'card_holds'). Laid BY PROGRAM, IN A SANDBOX (cutbox-door.mjs). By AI agents, Wed Nov 11 2026. No macro, syntax, notation, axiom, sorry.
-/
import Derived.Test.YtpmelhkhmichcaaDoorRows
import GoSem.ClaimSeven
namespace Go.Proofs.YtpmelhkhmichcaaDoor
namespace Rows

/-- THE TIED CARD OF 'laws.FnReadRule'. -/
def fnReadRuleCard : Claim7 := { stood := { row := fnReadRuleRow, standIns := [], harness := (true, "860f99a091aa9726d795a4c2b321e92827d3288be8ec113cf3a159349ec8396a"), looks := true }, kinds := [], alts := [], laidByText := true, laidKinds := [.data, .data, .data, .data, .sentinel, .sentinel, .pinned], laidTests := true, laidLooks := .later }
def FnReadRuleCardSaid : Prop := Claim7.holds Tryd.pinned (.plain (OpenSpec.ofChange fnReadRuleSpec)) fnReadRuleCard

/-- THE TIED CARD OF 'laws.FnRulesValid'. -/
def fnRulesValidCard : Claim7 := { stood := { row := fnRulesValidRow, standIns := [], harness := (true, "860f99a091aa9726d795a4c2b321e92827d3288be8ec113cf3a159349ec8396a"), looks := true }, kinds := [], alts := [], laidByText := true, laidKinds := [.data, .pinned], laidTests := true, laidLooks := .later }
def FnRulesValidCardSaid : Prop := Claim7.holds Tryd.pinned (.plain (OpenSpec.ofChange fnRulesValidSpec)) fnRulesValidCard

/-- THE TIED CARD OF 'laws.FnExactRulesValid'. -/
def fnExactRulesValidCard : Claim7 := { stood := { row := fnExactRulesValidRow, standIns := [], harness := (true, "860f99a091aa9726d795a4c2b321e92827d3288be8ec113cf3a159349ec8396a"), looks := true }, kinds := [], alts := [], laidByText := true, laidKinds := [.data, .pinned], laidTests := true, laidLooks := .later }
def FnExactRulesValidCardSaid : Prop := Claim7.holds Tryd.pinned (.plain (OpenSpec.ofChange fnExactRulesValidSpec)) fnExactRulesValidCard

/-- THE TIED CARD OF 'laws.FnExactFirstRule'. -/
def fnExactFirstRuleCard : Claim7 := { stood := { row := fnExactFirstRuleRow, standIns := [], harness := (true, "860f99a091aa9726d795a4c2b321e92827d3288be8ec113cf3a159349ec8396a"), looks := true }, kinds := [], alts := [], laidByText := true, laidKinds := [.data, .pinned], laidTests := true, laidLooks := .later }
def FnExactFirstRuleCardSaid : Prop := Claim7.holds Tryd.pinned (.plain (OpenSpec.ofChange fnExactFirstRuleSpec)) fnExactFirstRuleCard

/-- THE TIED CARD OF 'laws.FnFirstRule'. -/
def fnFirstRuleCard : Claim7 := { stood := { row := fnFirstRuleRow, standIns := [], harness := (true, "860f99a091aa9726d795a4c2b321e92827d3288be8ec113cf3a159349ec8396a"), looks := true }, kinds := [], alts := [], laidByText := true, laidKinds := [.data, .pinned], laidTests := true, laidLooks := .later }
def FnFirstRuleCardSaid : Prop := Claim7.holds Tryd.pinned (.plain (OpenSpec.ofChange fnFirstRuleSpec)) fnFirstRuleCard

/-- THE TIED CARD OF 'laws.FnExactRulesAllow'. -/
def fnExactRulesAllowCard : Claim7 := { stood := { row := fnExactRulesAllowRow, standIns := [], harness := (true, "860f99a091aa9726d795a4c2b321e92827d3288be8ec113cf3a159349ec8396a"), looks := true }, kinds := [], alts := [], laidByText := true, laidKinds := [.data, .pinned], laidTests := true, laidLooks := .later }
def FnExactRulesAllowCardSaid : Prop := Claim7.holds Tryd.pinned (.plain (OpenSpec.ofChange fnExactRulesAllowSpec)) fnExactRulesAllowCard

/-- THE TIED CARD OF 'laws.FnRulesAllow'. -/
def fnRulesAllowCard : Claim7 := { stood := { row := fnRulesAllowRow, standIns := [], harness := (true, "860f99a091aa9726d795a4c2b321e92827d3288be8ec113cf3a159349ec8396a"), looks := true }, kinds := [], alts := [], laidByText := true, laidKinds := [.data, .pinned], laidTests := true, laidLooks := .later }
def FnRulesAllowCardSaid : Prop := Claim7.holds Tryd.pinned (.plain (OpenSpec.ofChange fnRulesAllowSpec)) fnRulesAllowCard

/-- THE TIED CARD OF 'laws.FnDeadRules'. -/
def fnDeadRulesCard : Claim7 := { stood := { row := fnDeadRulesRow, standIns := [], harness := (true, "860f99a091aa9726d795a4c2b321e92827d3288be8ec113cf3a159349ec8396a"), looks := true }, kinds := [], alts := [], laidByText := true, laidKinds := [.data, .pinned], laidTests := true, laidLooks := .later }
def FnDeadRulesCardSaid : Prop := Claim7.holds Tryd.pinned (.plain (OpenSpec.ofChange fnDeadRulesSpec)) fnDeadRulesCard

/-- THE TIED CARD OF 'laws.FnExactDeadRules'. -/
def fnExactDeadRulesCard : Claim7 := { stood := { row := fnExactDeadRulesRow, standIns := [], harness := (true, "860f99a091aa9726d795a4c2b321e92827d3288be8ec113cf3a159349ec8396a"), looks := true }, kinds := [], alts := [], laidByText := true, laidKinds := [.data, .pinned], laidTests := true, laidLooks := .later }
def FnExactDeadRulesCardSaid : Prop := Claim7.holds Tryd.pinned (.plain (OpenSpec.ofChange fnExactDeadRulesSpec)) fnExactDeadRulesCard

/-- THE TIED CARD OF 'laws.FnExactRuleText'. -/
def fnExactRuleTextCard : Claim7 := { stood := { row := fnExactRuleTextRow, standIns := [], harness := (true, "860f99a091aa9726d795a4c2b321e92827d3288be8ec113cf3a159349ec8396a"), looks := true }, kinds := [], alts := [], laidByText := true, laidKinds := [.data, .data, .data, .data, .pinned], laidTests := true, laidLooks := .later }
def FnExactRuleTextCardSaid : Prop := Claim7.holds Tryd.pinned (.plain (OpenSpec.ofChange fnExactRuleTextSpec)) fnExactRuleTextCard

/-- THE TIED CARD OF 'laws.FnExactReadRule'. -/
def fnExactReadRuleCard : Claim7 := { stood := { row := fnExactReadRuleRow, standIns := [], harness := (true, "860f99a091aa9726d795a4c2b321e92827d3288be8ec113cf3a159349ec8396a"), looks := true }, kinds := [], alts := [], laidByText := true, laidKinds := [.data, .data, .data, .data, .sentinel, .sentinel, .pinned], laidTests := true, laidLooks := .later }
def FnExactReadRuleCardSaid : Prop := Claim7.holds Tryd.pinned (.plain (OpenSpec.ofChange fnExactReadRuleSpec)) fnExactReadRuleCard

/-- THE TIED CARD OF 'laws.FnRuleText'. -/
def fnRuleTextCard : Claim7 := { stood := { row := fnRuleTextRow, standIns := [], harness := (true, "860f99a091aa9726d795a4c2b321e92827d3288be8ec113cf3a159349ec8396a"), looks := true }, kinds := [], alts := [], laidByText := true, laidKinds := [.data, .data, .data, .data, .sentinel, .sentinel, .pinned], laidTests := true, laidLooks := .later }
def FnRuleTextCardSaid : Prop := Claim7.holds Tryd.pinned (.plain (OpenSpec.ofChange fnRuleTextSpec)) fnRuleTextCard

/-- THE SECOND FORM's CARD OF 'laws.FnReadRule'. -/
def fnReadRuleUptoCard : Claim7 := { stood := { row := fnReadRuleUptoRow, standIns := [], harness := (true, "860f99a091aa9726d795a4c2b321e92827d3288be8ec113cf3a159349ec8396a"), looks := true }, kinds := [], alts := [], laidByText := true, laidKinds := [.data, .data, .data, .data, .sentinel, .sentinel, .pinned], laidTests := true, laidLooks := .later }
def FnReadRuleUptoCardSaid : Prop := Claim7.holds Tryd.pinned (.plain (OpenSpec.upto fnReadRuleSpec)) fnReadRuleUptoCard

/-- THE SECOND FORM's CARD OF 'laws.FnRulesValid'. -/
def fnRulesValidUptoCard : Claim7 := { stood := { row := fnRulesValidUptoRow, standIns := [], harness := (true, "860f99a091aa9726d795a4c2b321e92827d3288be8ec113cf3a159349ec8396a"), looks := true }, kinds := [], alts := [], laidByText := true, laidKinds := [.data, .pinned], laidTests := true, laidLooks := .later }
def FnRulesValidUptoCardSaid : Prop := Claim7.holds Tryd.pinned (.plain (OpenSpec.upto fnRulesValidSpec)) fnRulesValidUptoCard

/-- THE SECOND FORM's CARD OF 'laws.FnExactRulesValid'. -/
def fnExactRulesValidUptoCard : Claim7 := { stood := { row := fnExactRulesValidUptoRow, standIns := [], harness := (true, "860f99a091aa9726d795a4c2b321e92827d3288be8ec113cf3a159349ec8396a"), looks := true }, kinds := [], alts := [], laidByText := true, laidKinds := [.data, .pinned], laidTests := true, laidLooks := .later }
def FnExactRulesValidUptoCardSaid : Prop := Claim7.holds Tryd.pinned (.plain (OpenSpec.upto fnExactRulesValidSpec)) fnExactRulesValidUptoCard

/-- THE SECOND FORM's CARD OF 'laws.FnExactFirstRule'. -/
def fnExactFirstRuleUptoCard : Claim7 := { stood := { row := fnExactFirstRuleUptoRow, standIns := [], harness := (true, "860f99a091aa9726d795a4c2b321e92827d3288be8ec113cf3a159349ec8396a"), looks := true }, kinds := [], alts := [], laidByText := true, laidKinds := [.data, .pinned], laidTests := true, laidLooks := .later }
def FnExactFirstRuleUptoCardSaid : Prop := Claim7.holds Tryd.pinned (.plain (OpenSpec.upto fnExactFirstRuleSpec)) fnExactFirstRuleUptoCard

/-- THE SECOND FORM's CARD OF 'laws.FnFirstRule'. -/
def fnFirstRuleUptoCard : Claim7 := { stood := { row := fnFirstRuleUptoRow, standIns := [], harness := (true, "860f99a091aa9726d795a4c2b321e92827d3288be8ec113cf3a159349ec8396a"), looks := true }, kinds := [], alts := [], laidByText := true, laidKinds := [.data, .pinned], laidTests := true, laidLooks := .later }
def FnFirstRuleUptoCardSaid : Prop := Claim7.holds Tryd.pinned (.plain (OpenSpec.upto fnFirstRuleSpec)) fnFirstRuleUptoCard

/-- THE SECOND FORM's CARD OF 'laws.FnExactRulesAllow'. -/
def fnExactRulesAllowUptoCard : Claim7 := { stood := { row := fnExactRulesAllowUptoRow, standIns := [], harness := (true, "860f99a091aa9726d795a4c2b321e92827d3288be8ec113cf3a159349ec8396a"), looks := true }, kinds := [], alts := [], laidByText := true, laidKinds := [.data, .pinned], laidTests := true, laidLooks := .later }
def FnExactRulesAllowUptoCardSaid : Prop := Claim7.holds Tryd.pinned (.plain (OpenSpec.upto fnExactRulesAllowSpec)) fnExactRulesAllowUptoCard

/-- THE SECOND FORM's CARD OF 'laws.FnRulesAllow'. -/
def fnRulesAllowUptoCard : Claim7 := { stood := { row := fnRulesAllowUptoRow, standIns := [], harness := (true, "860f99a091aa9726d795a4c2b321e92827d3288be8ec113cf3a159349ec8396a"), looks := true }, kinds := [], alts := [], laidByText := true, laidKinds := [.data, .pinned], laidTests := true, laidLooks := .later }
def FnRulesAllowUptoCardSaid : Prop := Claim7.holds Tryd.pinned (.plain (OpenSpec.upto fnRulesAllowSpec)) fnRulesAllowUptoCard

/-- THE SECOND FORM's CARD OF 'laws.FnDeadRules'. -/
def fnDeadRulesUptoCard : Claim7 := { stood := { row := fnDeadRulesUptoRow, standIns := [], harness := (true, "860f99a091aa9726d795a4c2b321e92827d3288be8ec113cf3a159349ec8396a"), looks := true }, kinds := [], alts := [], laidByText := true, laidKinds := [.data, .pinned], laidTests := true, laidLooks := .later }
def FnDeadRulesUptoCardSaid : Prop := Claim7.holds Tryd.pinned (.plain (OpenSpec.upto fnDeadRulesSpec)) fnDeadRulesUptoCard

/-- THE SECOND FORM's CARD OF 'laws.FnExactDeadRules'. -/
def fnExactDeadRulesUptoCard : Claim7 := { stood := { row := fnExactDeadRulesUptoRow, standIns := [], harness := (true, "860f99a091aa9726d795a4c2b321e92827d3288be8ec113cf3a159349ec8396a"), looks := true }, kinds := [], alts := [], laidByText := true, laidKinds := [.data, .pinned], laidTests := true, laidLooks := .later }
def FnExactDeadRulesUptoCardSaid : Prop := Claim7.holds Tryd.pinned (.plain (OpenSpec.upto fnExactDeadRulesSpec)) fnExactDeadRulesUptoCard

/-- THE SECOND FORM's CARD OF 'laws.FnExactRuleText'. -/
def fnExactRuleTextUptoCard : Claim7 := { stood := { row := fnExactRuleTextUptoRow, standIns := [], harness := (true, "860f99a091aa9726d795a4c2b321e92827d3288be8ec113cf3a159349ec8396a"), looks := true }, kinds := [], alts := [], laidByText := true, laidKinds := [.data, .data, .data, .data, .pinned], laidTests := true, laidLooks := .later }
def FnExactRuleTextUptoCardSaid : Prop := Claim7.holds Tryd.pinned (.plain (OpenSpec.upto fnExactRuleTextSpec)) fnExactRuleTextUptoCard

/-- THE SECOND FORM's CARD OF 'laws.FnExactReadRule'. -/
def fnExactReadRuleUptoCard : Claim7 := { stood := { row := fnExactReadRuleUptoRow, standIns := [], harness := (true, "860f99a091aa9726d795a4c2b321e92827d3288be8ec113cf3a159349ec8396a"), looks := true }, kinds := [], alts := [], laidByText := true, laidKinds := [.data, .data, .data, .data, .sentinel, .sentinel, .pinned], laidTests := true, laidLooks := .later }
def FnExactReadRuleUptoCardSaid : Prop := Claim7.holds Tryd.pinned (.plain (OpenSpec.upto fnExactReadRuleSpec)) fnExactReadRuleUptoCard

/-- THE SECOND FORM's CARD OF 'laws.FnRuleText'. -/
def fnRuleTextUptoCard : Claim7 := { stood := { row := fnRuleTextUptoRow, standIns := [], harness := (true, "860f99a091aa9726d795a4c2b321e92827d3288be8ec113cf3a159349ec8396a"), looks := true }, kinds := [], alts := [], laidByText := true, laidKinds := [.data, .data, .data, .data, .sentinel, .sentinel, .pinned], laidTests := true, laidLooks := .later }
def FnRuleTextUptoCardSaid : Prop := Claim7.holds Tryd.pinned (.plain (OpenSpec.upto fnRuleTextSpec)) fnRuleTextUptoCard
end Rows
end Go.Proofs.YtpmelhkhmichcaaDoor
