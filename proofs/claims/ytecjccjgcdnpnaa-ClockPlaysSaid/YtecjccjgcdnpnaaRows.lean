/-
  No cell of these rows narrows 'for every input' (looked for: loops, veiled, ifaces, maps, wideKeys, modest, calm, conditions, laid).
  DERIVED. THE GIVEN ROWS OF THIS SEAT. 11 by the template 'for every input the law returns true; each argument reads behind the call as it read before'; 0 by the template 'total and deterministic' (their statements: YtecjccjgcdnpnaaTotals.lean).
  GIVEN WITH THE SEED: the statements are not yours to turn. If you find one false, say at which input.
  Laid BY PROGRAM, IN A SANDBOX (cutbox-rows.mjs): the forced cells as the released guide's own fill.sh prints them over the translation 9c7c9d170f0a4b12… (all of the seat's roots in one cut). By AI agents, Wed Nov 11 2026. No macro, syntax, notation, axiom, sorry.
-/
import Derived.Test.YtecjccjgcdnpnaaChecked
import GoSem.Claim
import GoSem.ClaimJoined
import GoSem.ClaimMapViews
import Derived.JoinedTies
import Derived.KernelRfl
namespace Go.Proofs.Ytecjccjgcdnpnaa
/- THE CELL 'sum', in the pinned program and in every row, IS THE sha256 OF THE DUMP (.gsa) THAT YtecjccjgcdnpnaaProg.lean LOADS. Nothing in Lean hashes anything: it is a label: what it is worth is what the hold of that sum in a sandbox is worth. -/
noncomputable def Try.pinned : Pinned := { name := "ytecjccjgcdnpnaa", sum := "9c7c9d170f0a4b12e147408762fd00a46d1e0a9a3ab73dbb7a911b2eaeb4dd5b", checked := Try.checked }
namespace Rows
def none {H : Type} : Left H := { results := [], args := [] }

/-- 'siltlaw03.PlanTells': WHATEVER THE INPUT: true; the input reads as it did. -/
def planTellsSpec : ChangeSpec := { name := "planTells", fn := fun _ => fun
  | [d1, d2, d3] => { results := [.lit (.bool true)], args := [d1, d2, d3] }
  | _ => none }
def planTellsRow : OpenClaim := { program := "ytecjccjgcdnpnaa", sum := "9c7c9d170f0a4b12e147408762fd00a46d1e0a9a3ab73dbb7a911b2eaeb4dd5b", func := "silt/siltlaw03.PlanTells", spec := "planTells", apart := false }
def PlanTellsSaid : Prop := planTellsRow.holds Try.pinned (OpenSpec.ofChange planTellsSpec)

/-- ITS FALSE NEIGHBOUR: 'it returns false'. Refute it at one input. -/
def planTellsWrong : ChangeSpec := { name := "planTells", fn := fun _ => fun
  | [d1, d2, d3] => { results := [.lit (.bool false)], args := [d1, d2, d3] }
  | _ => none }
def PlanTellsWrongFalsely : Prop := planTellsRow.holds Try.pinned (OpenSpec.ofChange planTellsWrong)

/-- 'siltlaw03.PlanApart': WHATEVER THE INPUT: true; the input reads as it did. -/
def planApartSpec : ChangeSpec := { name := "planApart", fn := fun _ => fun
  | [d] => { results := [.lit (.bool true)], args := [d] }
  | _ => none }
def planApartRow : OpenClaim := { program := "ytecjccjgcdnpnaa", sum := "9c7c9d170f0a4b12e147408762fd00a46d1e0a9a3ab73dbb7a911b2eaeb4dd5b", func := "silt/siltlaw03.PlanApart", spec := "planApart", apart := false }
def PlanApartSaid : Prop := planApartRow.holds Try.pinned (OpenSpec.ofChange planApartSpec)

/-- ITS FALSE NEIGHBOUR: 'it returns false'. Refute it at one input. -/
def planApartWrong : ChangeSpec := { name := "planApart", fn := fun _ => fun
  | [d] => { results := [.lit (.bool false)], args := [d] }
  | _ => none }
def PlanApartWrongFalsely : Prop := planApartRow.holds Try.pinned (OpenSpec.ofChange planApartWrong)

/-- 'siltlaw03.PlanGrows': WHATEVER THE INPUT: true; the input reads as it did. -/
def planGrowsSpec : ChangeSpec := { name := "planGrows", fn := fun _ => fun
  | [d] => { results := [.lit (.bool true)], args := [d] }
  | _ => none }
def planGrowsRow : OpenClaim := { program := "ytecjccjgcdnpnaa", sum := "9c7c9d170f0a4b12e147408762fd00a46d1e0a9a3ab73dbb7a911b2eaeb4dd5b", func := "silt/siltlaw03.PlanGrows", spec := "planGrows", apart := false }
def PlanGrowsSaid : Prop := planGrowsRow.holds Try.pinned (OpenSpec.ofChange planGrowsSpec)

/-- ITS FALSE NEIGHBOUR: 'it returns false'. Refute it at one input. -/
def planGrowsWrong : ChangeSpec := { name := "planGrows", fn := fun _ => fun
  | [d] => { results := [.lit (.bool false)], args := [d] }
  | _ => none }
def PlanGrowsWrongFalsely : Prop := planGrowsRow.holds Try.pinned (OpenSpec.ofChange planGrowsWrong)

/-- 'siltlaw11.UsageTells': WHATEVER THE INPUT: true; the input reads as it did. -/
def usageTellsSpec : ChangeSpec := { name := "usageTells", fn := fun _ => fun
  | [d1, d2, d3] => { results := [.lit (.bool true)], args := [d1, d2, d3] }
  | _ => none }
def usageTellsRow : OpenClaim := { program := "ytecjccjgcdnpnaa", sum := "9c7c9d170f0a4b12e147408762fd00a46d1e0a9a3ab73dbb7a911b2eaeb4dd5b", func := "silt/siltlaw11.UsageTells", spec := "usageTells", apart := false }
def UsageTellsSaid : Prop := usageTellsRow.holds Try.pinned (OpenSpec.ofChange usageTellsSpec)

/-- ITS FALSE NEIGHBOUR: 'it returns false'. Refute it at one input. -/
def usageTellsWrong : ChangeSpec := { name := "usageTells", fn := fun _ => fun
  | [d1, d2, d3] => { results := [.lit (.bool false)], args := [d1, d2, d3] }
  | _ => none }
def UsageTellsWrongFalsely : Prop := usageTellsRow.holds Try.pinned (OpenSpec.ofChange usageTellsWrong)

/-- 'siltlaw11.UsageApart': WHATEVER THE INPUT: true; the input reads as it did. -/
def usageApartSpec : ChangeSpec := { name := "usageApart", fn := fun _ => fun
  | [d1, d2, d3] => { results := [.lit (.bool true)], args := [d1, d2, d3] }
  | _ => none }
def usageApartRow : OpenClaim := { program := "ytecjccjgcdnpnaa", sum := "9c7c9d170f0a4b12e147408762fd00a46d1e0a9a3ab73dbb7a911b2eaeb4dd5b", func := "silt/siltlaw11.UsageApart", spec := "usageApart", apart := false }
def UsageApartSaid : Prop := usageApartRow.holds Try.pinned (OpenSpec.ofChange usageApartSpec)

/-- ITS FALSE NEIGHBOUR: 'it returns false'. Refute it at one input. -/
def usageApartWrong : ChangeSpec := { name := "usageApart", fn := fun _ => fun
  | [d1, d2, d3] => { results := [.lit (.bool false)], args := [d1, d2, d3] }
  | _ => none }
def UsageApartWrongFalsely : Prop := usageApartRow.holds Try.pinned (OpenSpec.ofChange usageApartWrong)

/-- 'siltlaw11.UsageAdds': WHATEVER THE INPUT: true; the input reads as it did. -/
def usageAddsSpec : ChangeSpec := { name := "usageAdds", fn := fun _ => fun
  | [d1, d2, d3] => { results := [.lit (.bool true)], args := [d1, d2, d3] }
  | _ => none }
def usageAddsRow : OpenClaim := { program := "ytecjccjgcdnpnaa", sum := "9c7c9d170f0a4b12e147408762fd00a46d1e0a9a3ab73dbb7a911b2eaeb4dd5b", func := "silt/siltlaw11.UsageAdds", spec := "usageAdds", apart := false }
def UsageAddsSaid : Prop := usageAddsRow.holds Try.pinned (OpenSpec.ofChange usageAddsSpec)

/-- ITS FALSE NEIGHBOUR: 'it returns false'. Refute it at one input. -/
def usageAddsWrong : ChangeSpec := { name := "usageAdds", fn := fun _ => fun
  | [d1, d2, d3] => { results := [.lit (.bool false)], args := [d1, d2, d3] }
  | _ => none }
def UsageAddsWrongFalsely : Prop := usageAddsRow.holds Try.pinned (OpenSpec.ofChange usageAddsWrong)

/-- 'siltlaw16.ClockPins': WHATEVER THE INPUT: true; the input reads as it did. -/
def clockPinsSpec : ChangeSpec := { name := "clockPins", fn := fun _ => fun
  | [d1, d2] => { results := [.lit (.bool true)], args := [d1, d2] }
  | _ => none }
def clockPinsRow : OpenClaim := { program := "ytecjccjgcdnpnaa", sum := "9c7c9d170f0a4b12e147408762fd00a46d1e0a9a3ab73dbb7a911b2eaeb4dd5b", func := "silt/siltlaw16.ClockPins", spec := "clockPins", apart := false }
def ClockPinsSaid : Prop := clockPinsRow.holds Try.pinned (OpenSpec.ofChange clockPinsSpec)

/-- ITS FALSE NEIGHBOUR: 'it returns false'. Refute it at one input. -/
def clockPinsWrong : ChangeSpec := { name := "clockPins", fn := fun _ => fun
  | [d1, d2] => { results := [.lit (.bool false)], args := [d1, d2] }
  | _ => none }
def ClockPinsWrongFalsely : Prop := clockPinsRow.holds Try.pinned (OpenSpec.ofChange clockPinsWrong)

/-- 'siltlaw16.ClockKeys': WHATEVER THE INPUT: true; the input reads as it did. -/
def clockKeysSpec : ChangeSpec := { name := "clockKeys", fn := fun _ => fun
  | [d1, d2] => { results := [.lit (.bool true)], args := [d1, d2] }
  | _ => none }
def clockKeysRow : OpenClaim := { program := "ytecjccjgcdnpnaa", sum := "9c7c9d170f0a4b12e147408762fd00a46d1e0a9a3ab73dbb7a911b2eaeb4dd5b", func := "silt/siltlaw16.ClockKeys", spec := "clockKeys", apart := false }
def ClockKeysSaid : Prop := clockKeysRow.holds Try.pinned (OpenSpec.ofChange clockKeysSpec)

/-- ITS FALSE NEIGHBOUR: 'it returns false'. Refute it at one input. -/
def clockKeysWrong : ChangeSpec := { name := "clockKeys", fn := fun _ => fun
  | [d1, d2] => { results := [.lit (.bool false)], args := [d1, d2] }
  | _ => none }
def ClockKeysWrongFalsely : Prop := clockKeysRow.holds Try.pinned (OpenSpec.ofChange clockKeysWrong)

/-- 'siltlaw16.ClockPlays': WHATEVER THE INPUT: true; the input reads as it did. -/
def clockPlaysSpec : ChangeSpec := { name := "clockPlays", fn := fun _ => fun
  | [d1, d2] => { results := [.lit (.bool true)], args := [d1, d2] }
  | _ => none }
def clockPlaysRow : OpenClaim := { program := "ytecjccjgcdnpnaa", sum := "9c7c9d170f0a4b12e147408762fd00a46d1e0a9a3ab73dbb7a911b2eaeb4dd5b", func := "silt/siltlaw16.ClockPlays", spec := "clockPlays", apart := false }
def ClockPlaysSaid : Prop := clockPlaysRow.holds Try.pinned (OpenSpec.ofChange clockPlaysSpec)

/-- ITS FALSE NEIGHBOUR: 'it returns false'. Refute it at one input. -/
def clockPlaysWrong : ChangeSpec := { name := "clockPlays", fn := fun _ => fun
  | [d1, d2] => { results := [.lit (.bool false)], args := [d1, d2] }
  | _ => none }
def ClockPlaysWrongFalsely : Prop := clockPlaysRow.holds Try.pinned (OpenSpec.ofChange clockPlaysWrong)

/-- 'siltlaw16.ClockNone': WHATEVER THE INPUT: true; the input reads as it did. -/
def clockNoneSpec : ChangeSpec := { name := "clockNone", fn := fun _ => fun
  | [d] => { results := [.lit (.bool true)], args := [d] }
  | _ => none }
def clockNoneRow : OpenClaim := { program := "ytecjccjgcdnpnaa", sum := "9c7c9d170f0a4b12e147408762fd00a46d1e0a9a3ab73dbb7a911b2eaeb4dd5b", func := "silt/siltlaw16.ClockNone", spec := "clockNone", apart := false }
def ClockNoneSaid : Prop := clockNoneRow.holds Try.pinned (OpenSpec.ofChange clockNoneSpec)

/-- ITS FALSE NEIGHBOUR: 'it returns false'. Refute it at one input. -/
def clockNoneWrong : ChangeSpec := { name := "clockNone", fn := fun _ => fun
  | [d] => { results := [.lit (.bool false)], args := [d] }
  | _ => none }
def ClockNoneWrongFalsely : Prop := clockNoneRow.holds Try.pinned (OpenSpec.ofChange clockNoneWrong)

/-- 'siltlaw16.ClockTurns': WHATEVER THE INPUT: true; the input reads as it did. -/
def clockTurnsSpec : ChangeSpec := { name := "clockTurns", fn := fun _ => fun
  | [d1, d2, d3] => { results := [.lit (.bool true)], args := [d1, d2, d3] }
  | _ => none }
def clockTurnsRow : OpenClaim := { program := "ytecjccjgcdnpnaa", sum := "9c7c9d170f0a4b12e147408762fd00a46d1e0a9a3ab73dbb7a911b2eaeb4dd5b", func := "silt/siltlaw16.ClockTurns", spec := "clockTurns", apart := false }
def ClockTurnsSaid : Prop := clockTurnsRow.holds Try.pinned (OpenSpec.ofChange clockTurnsSpec)

/-- ITS FALSE NEIGHBOUR: 'it returns false'. Refute it at one input. -/
def clockTurnsWrong : ChangeSpec := { name := "clockTurns", fn := fun _ => fun
  | [d1, d2, d3] => { results := [.lit (.bool false)], args := [d1, d2, d3] }
  | _ => none }
def ClockTurnsWrongFalsely : Prop := clockTurnsRow.holds Try.pinned (OpenSpec.ofChange clockTurnsWrong)

/- THE SECOND FORM. 'bulk': how many values and letters a reading holds, each counted each time it is reached (what is shared counts as often as it is met; a slice's spare places count too). A statement '..UptoSaid' is the law's where the arguments, and the package variables that the reading takes, are together of bulk at most 1048576: NARROWER than '..Said'. Prove '..Said' where nothing that the law and all that it calls make is longer than what came in: it says more and counts as full. Else prove '..UptoSaid'. A law counts once. -/
mutual
def uptoBulk {H : Type} : DataW H → Nat
  | .lit (.string bytes) => bytes.length + 1
  | .lit _ => 1
  | .nil => 1
  | .ptr d => uptoBulk d + 1
  | .slice elems spare => uptoBulkAll elems + uptoBulkAll spare + 1
  | .agg parts => uptoBulkAll parts + 1
  | .iface _ d => uptoBulk d + 1
  | .map entries => uptoBulkEntries entries + 1
  | .held _ => 1
def uptoBulkAll {H : Type} : List (DataW H) → Nat
  | [] => 0
  | d :: r => uptoBulk d + uptoBulkAll r
def uptoBulkEntries {H : Type} : List (Lit × DataW H) → Nat
  | [] => 0
  | x :: r => uptoBulkEntry x + uptoBulkEntries r
def uptoBulkEntry {H : Type} : Lit × DataW H → Nat
  | (.string bytes, d) => bytes.length + uptoBulk d + 1
  | (_, d) => uptoBulk d + 1
 end
def uptoSmall : (H : Type) → List (DataW H) → Bool := fun _ ds => decide (uptoBulkAll ds ≤ 1048576)
def OpenSpec.upto (s : _root_.Go.ChangeSpec) : _root_.Go.OpenSpec := { _root_.Go.OpenSpec.ofChange s with cond := some uptoSmall }

/-- 'siltlaw03.PlanTells', WHERE WHAT IT READS IS OF BULK AT MOST 1048576: true; the input reads as it did. -/
def planTellsUptoRow : OpenClaim := { program := "ytecjccjgcdnpnaa", sum := "9c7c9d170f0a4b12e147408762fd00a46d1e0a9a3ab73dbb7a911b2eaeb4dd5b", func := "silt/siltlaw03.PlanTells", spec := "planTells", apart := false, narrowed := true }
def PlanTellsUptoSaid : Prop := planTellsUptoRow.holds Try.pinned (OpenSpec.upto planTellsSpec)

/-- 'siltlaw03.PlanApart', WHERE WHAT IT READS IS OF BULK AT MOST 1048576: true; the input reads as it did. -/
def planApartUptoRow : OpenClaim := { program := "ytecjccjgcdnpnaa", sum := "9c7c9d170f0a4b12e147408762fd00a46d1e0a9a3ab73dbb7a911b2eaeb4dd5b", func := "silt/siltlaw03.PlanApart", spec := "planApart", apart := false, narrowed := true }
def PlanApartUptoSaid : Prop := planApartUptoRow.holds Try.pinned (OpenSpec.upto planApartSpec)

/-- 'siltlaw03.PlanGrows', WHERE WHAT IT READS IS OF BULK AT MOST 1048576: true; the input reads as it did. -/
def planGrowsUptoRow : OpenClaim := { program := "ytecjccjgcdnpnaa", sum := "9c7c9d170f0a4b12e147408762fd00a46d1e0a9a3ab73dbb7a911b2eaeb4dd5b", func := "silt/siltlaw03.PlanGrows", spec := "planGrows", apart := false, narrowed := true }
def PlanGrowsUptoSaid : Prop := planGrowsUptoRow.holds Try.pinned (OpenSpec.upto planGrowsSpec)

/-- 'siltlaw11.UsageTells', WHERE WHAT IT READS IS OF BULK AT MOST 1048576: true; the input reads as it did. -/
def usageTellsUptoRow : OpenClaim := { program := "ytecjccjgcdnpnaa", sum := "9c7c9d170f0a4b12e147408762fd00a46d1e0a9a3ab73dbb7a911b2eaeb4dd5b", func := "silt/siltlaw11.UsageTells", spec := "usageTells", apart := false, narrowed := true }
def UsageTellsUptoSaid : Prop := usageTellsUptoRow.holds Try.pinned (OpenSpec.upto usageTellsSpec)

/-- 'siltlaw11.UsageApart', WHERE WHAT IT READS IS OF BULK AT MOST 1048576: true; the input reads as it did. -/
def usageApartUptoRow : OpenClaim := { program := "ytecjccjgcdnpnaa", sum := "9c7c9d170f0a4b12e147408762fd00a46d1e0a9a3ab73dbb7a911b2eaeb4dd5b", func := "silt/siltlaw11.UsageApart", spec := "usageApart", apart := false, narrowed := true }
def UsageApartUptoSaid : Prop := usageApartUptoRow.holds Try.pinned (OpenSpec.upto usageApartSpec)

/-- 'siltlaw11.UsageAdds', WHERE WHAT IT READS IS OF BULK AT MOST 1048576: true; the input reads as it did. -/
def usageAddsUptoRow : OpenClaim := { program := "ytecjccjgcdnpnaa", sum := "9c7c9d170f0a4b12e147408762fd00a46d1e0a9a3ab73dbb7a911b2eaeb4dd5b", func := "silt/siltlaw11.UsageAdds", spec := "usageAdds", apart := false, narrowed := true }
def UsageAddsUptoSaid : Prop := usageAddsUptoRow.holds Try.pinned (OpenSpec.upto usageAddsSpec)

/-- 'siltlaw16.ClockPins', WHERE WHAT IT READS IS OF BULK AT MOST 1048576: true; the input reads as it did. -/
def clockPinsUptoRow : OpenClaim := { program := "ytecjccjgcdnpnaa", sum := "9c7c9d170f0a4b12e147408762fd00a46d1e0a9a3ab73dbb7a911b2eaeb4dd5b", func := "silt/siltlaw16.ClockPins", spec := "clockPins", apart := false, narrowed := true }
def ClockPinsUptoSaid : Prop := clockPinsUptoRow.holds Try.pinned (OpenSpec.upto clockPinsSpec)

/-- 'siltlaw16.ClockKeys', WHERE WHAT IT READS IS OF BULK AT MOST 1048576: true; the input reads as it did. -/
def clockKeysUptoRow : OpenClaim := { program := "ytecjccjgcdnpnaa", sum := "9c7c9d170f0a4b12e147408762fd00a46d1e0a9a3ab73dbb7a911b2eaeb4dd5b", func := "silt/siltlaw16.ClockKeys", spec := "clockKeys", apart := false, narrowed := true }
def ClockKeysUptoSaid : Prop := clockKeysUptoRow.holds Try.pinned (OpenSpec.upto clockKeysSpec)

/-- 'siltlaw16.ClockPlays', WHERE WHAT IT READS IS OF BULK AT MOST 1048576: true; the input reads as it did. -/
def clockPlaysUptoRow : OpenClaim := { program := "ytecjccjgcdnpnaa", sum := "9c7c9d170f0a4b12e147408762fd00a46d1e0a9a3ab73dbb7a911b2eaeb4dd5b", func := "silt/siltlaw16.ClockPlays", spec := "clockPlays", apart := false, narrowed := true }
def ClockPlaysUptoSaid : Prop := clockPlaysUptoRow.holds Try.pinned (OpenSpec.upto clockPlaysSpec)

/-- 'siltlaw16.ClockNone', WHERE WHAT IT READS IS OF BULK AT MOST 1048576: true; the input reads as it did. -/
def clockNoneUptoRow : OpenClaim := { program := "ytecjccjgcdnpnaa", sum := "9c7c9d170f0a4b12e147408762fd00a46d1e0a9a3ab73dbb7a911b2eaeb4dd5b", func := "silt/siltlaw16.ClockNone", spec := "clockNone", apart := false, narrowed := true }
def ClockNoneUptoSaid : Prop := clockNoneUptoRow.holds Try.pinned (OpenSpec.upto clockNoneSpec)

/-- 'siltlaw16.ClockTurns', WHERE WHAT IT READS IS OF BULK AT MOST 1048576: true; the input reads as it did. -/
def clockTurnsUptoRow : OpenClaim := { program := "ytecjccjgcdnpnaa", sum := "9c7c9d170f0a4b12e147408762fd00a46d1e0a9a3ab73dbb7a911b2eaeb4dd5b", func := "silt/siltlaw16.ClockTurns", spec := "clockTurns", apart := false, narrowed := true }
def ClockTurnsUptoSaid : Prop := clockTurnsUptoRow.holds Try.pinned (OpenSpec.upto clockTurnsSpec)

end Rows
end Go.Proofs.Ytecjccjgcdnpnaa
