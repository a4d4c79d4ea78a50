/-
  No cell of these rows narrows 'for every input' (looked for: loops, veiled, ifaces, maps, wideKeys, modest, calm, conditions, laid).
  DERIVED. THE GIVEN ROWS OF THIS SEAT. 12 by the template 'for every input the law returns true; each argument reads behind the call as it read before'; 0 by the template 'total and deterministic' (their statements: YtfblececmkimiaaTotals.lean).
  GIVEN WITH THE SEED: the statements are not yours to turn. If you find one false, say at which input.
  Laid BY PROGRAM, IN A SANDBOX (cutbox-rows.mjs): the forced cells as the released guide's own fill.sh prints them over the translation 439c29dd5b7b011a… (all of the seat's roots in one cut). By AI agents, Wed Nov 11 2026. No macro, syntax, notation, axiom, sorry.
-/
import Derived.Test.YtfblececmkimiaaChecked
import GoSem.Claim
import GoSem.ClaimJoined
import GoSem.ClaimMapViews
import Derived.JoinedTies
import Derived.KernelRfl
namespace Go.Proofs.Ytfblececmkimiaa
/- THE CELL 'sum', in the pinned program and in every row, IS THE sha256 OF THE DUMP (.gsa) THAT YtfblececmkimiaaProg.lean LOADS. Nothing in Lean hashes anything: it is a label: what it is worth is what the hold of that sum in a sandbox is worth. -/
noncomputable def Try.pinned : Pinned := { name := "ytfblececmkimiaa", sum := "439c29dd5b7b011ab6d406cfcad66ad299f5d8ac6219c47a9b823904698272a0", checked := Try.checked }
namespace Rows
def none {H : Type} : Left H := { results := [], args := [] }

/-- 'bartizanlaw15.JusticeShares': WHATEVER THE INPUT: true; the input reads as it did. -/
def justiceSharesSpec : ChangeSpec := { name := "justiceShares", fn := fun _ => fun
  | [d1, d2] => { results := [.lit (.bool true)], args := [d1, d2] }
  | _ => none }
def justiceSharesRow : OpenClaim := { program := "ytfblececmkimiaa", sum := "439c29dd5b7b011ab6d406cfcad66ad299f5d8ac6219c47a9b823904698272a0", func := "bartizan/bartizanlaw15.JusticeShares", spec := "justiceShares", apart := false }
def JusticeSharesSaid : Prop := justiceSharesRow.holds Try.pinned (OpenSpec.ofChange justiceSharesSpec)

/-- ITS FALSE NEIGHBOUR: 'it returns false'. Refute it at one input. -/
def justiceSharesWrong : ChangeSpec := { name := "justiceShares", fn := fun _ => fun
  | [d1, d2] => { results := [.lit (.bool false)], args := [d1, d2] }
  | _ => none }
def JusticeSharesWrongFalsely : Prop := justiceSharesRow.holds Try.pinned (OpenSpec.ofChange justiceSharesWrong)

/-- 'bartizanlaw06.CoinParts': WHATEVER THE INPUT: true; the input reads as it did. -/
def coinPartsSpec : ChangeSpec := { name := "coinParts", fn := fun _ => fun
  | [d1, d2, d3] => { results := [.lit (.bool true)], args := [d1, d2, d3] }
  | _ => none }
def coinPartsRow : OpenClaim := { program := "ytfblececmkimiaa", sum := "439c29dd5b7b011ab6d406cfcad66ad299f5d8ac6219c47a9b823904698272a0", func := "bartizan/bartizanlaw06.CoinParts", spec := "coinParts", apart := false }
def CoinPartsSaid : Prop := coinPartsRow.holds Try.pinned (OpenSpec.ofChange coinPartsSpec)

/-- ITS FALSE NEIGHBOUR: 'it returns false'. Refute it at one input. -/
def coinPartsWrong : ChangeSpec := { name := "coinParts", fn := fun _ => fun
  | [d1, d2, d3] => { results := [.lit (.bool false)], args := [d1, d2, d3] }
  | _ => none }
def CoinPartsWrongFalsely : Prop := coinPartsRow.holds Try.pinned (OpenSpec.ofChange coinPartsWrong)

/-- 'bartizanlaw06.CoinSums': WHATEVER THE INPUT: true; the input reads as it did. -/
def coinSumsSpec : ChangeSpec := { name := "coinSums", fn := fun _ => fun
  | [d1, d2] => { results := [.lit (.bool true)], args := [d1, d2] }
  | _ => none }
def coinSumsRow : OpenClaim := { program := "ytfblececmkimiaa", sum := "439c29dd5b7b011ab6d406cfcad66ad299f5d8ac6219c47a9b823904698272a0", func := "bartizan/bartizanlaw06.CoinSums", spec := "coinSums", apart := false }
def CoinSumsSaid : Prop := coinSumsRow.holds Try.pinned (OpenSpec.ofChange coinSumsSpec)

/-- ITS FALSE NEIGHBOUR: 'it returns false'. Refute it at one input. -/
def coinSumsWrong : ChangeSpec := { name := "coinSums", fn := fun _ => fun
  | [d1, d2] => { results := [.lit (.bool false)], args := [d1, d2] }
  | _ => none }
def CoinSumsWrongFalsely : Prop := coinSumsRow.holds Try.pinned (OpenSpec.ofChange coinSumsWrong)

/-- 'bartizanlaw06.CoinPurses': WHATEVER THE INPUT: true; the input reads as it did. -/
def coinPursesSpec : ChangeSpec := { name := "coinPurses", fn := fun _ => fun
  | [d] => { results := [.lit (.bool true)], args := [d] }
  | _ => none }
def coinPursesRow : OpenClaim := { program := "ytfblececmkimiaa", sum := "439c29dd5b7b011ab6d406cfcad66ad299f5d8ac6219c47a9b823904698272a0", func := "bartizan/bartizanlaw06.CoinPurses", spec := "coinPurses", apart := false }
def CoinPursesSaid : Prop := coinPursesRow.holds Try.pinned (OpenSpec.ofChange coinPursesSpec)

/-- ITS FALSE NEIGHBOUR: 'it returns false'. Refute it at one input. -/
def coinPursesWrong : ChangeSpec := { name := "coinPurses", fn := fun _ => fun
  | [d] => { results := [.lit (.bool false)], args := [d] }
  | _ => none }
def CoinPursesWrongFalsely : Prop := coinPursesRow.holds Try.pinned (OpenSpec.ofChange coinPursesWrong)

/-- 'bartizanlaw22.DiskLoads': WHATEVER THE INPUT: true; the input reads as it did. -/
def diskLoadsSpec : ChangeSpec := { name := "diskLoads", fn := fun _ => fun
  | [d] => { results := [.lit (.bool true)], args := [d] }
  | _ => none }
def diskLoadsRow : OpenClaim := { program := "ytfblececmkimiaa", sum := "439c29dd5b7b011ab6d406cfcad66ad299f5d8ac6219c47a9b823904698272a0", func := "bartizan/bartizanlaw22.DiskLoads", spec := "diskLoads", apart := false }
def DiskLoadsSaid : Prop := diskLoadsRow.holds Try.pinned (OpenSpec.ofChange diskLoadsSpec)

/-- ITS FALSE NEIGHBOUR: 'it returns false'. Refute it at one input. -/
def diskLoadsWrong : ChangeSpec := { name := "diskLoads", fn := fun _ => fun
  | [d] => { results := [.lit (.bool false)], args := [d] }
  | _ => none }
def DiskLoadsWrongFalsely : Prop := diskLoadsRow.holds Try.pinned (OpenSpec.ofChange diskLoadsWrong)

/-- 'bartizanlaw22.DiskPlays': WHATEVER THE INPUT: true; the input reads as it did. -/
def diskPlaysSpec : ChangeSpec := { name := "diskPlays", fn := fun _ => fun
  | [d1, d2] => { results := [.lit (.bool true)], args := [d1, d2] }
  | _ => none }
def diskPlaysRow : OpenClaim := { program := "ytfblececmkimiaa", sum := "439c29dd5b7b011ab6d406cfcad66ad299f5d8ac6219c47a9b823904698272a0", func := "bartizan/bartizanlaw22.DiskPlays", spec := "diskPlays", apart := false }
def DiskPlaysSaid : Prop := diskPlaysRow.holds Try.pinned (OpenSpec.ofChange diskPlaysSpec)

/-- ITS FALSE NEIGHBOUR: 'it returns false'. Refute it at one input. -/
def diskPlaysWrong : ChangeSpec := { name := "diskPlays", fn := fun _ => fun
  | [d1, d2] => { results := [.lit (.bool false)], args := [d1, d2] }
  | _ => none }
def DiskPlaysWrongFalsely : Prop := diskPlaysRow.holds Try.pinned (OpenSpec.ofChange diskPlaysWrong)

/-- 'bartizanlaw22.DiskNobody': WHATEVER THE INPUT: true; the input reads as it did. -/
def diskNobodySpec : ChangeSpec := { name := "diskNobody", fn := fun _ => fun
  | [d1, d2] => { results := [.lit (.bool true)], args := [d1, d2] }
  | _ => none }
def diskNobodyRow : OpenClaim := { program := "ytfblececmkimiaa", sum := "439c29dd5b7b011ab6d406cfcad66ad299f5d8ac6219c47a9b823904698272a0", func := "bartizan/bartizanlaw22.DiskNobody", spec := "diskNobody", apart := false }
def DiskNobodySaid : Prop := diskNobodyRow.holds Try.pinned (OpenSpec.ofChange diskNobodySpec)

/-- ITS FALSE NEIGHBOUR: 'it returns false'. Refute it at one input. -/
def diskNobodyWrong : ChangeSpec := { name := "diskNobody", fn := fun _ => fun
  | [d1, d2] => { results := [.lit (.bool false)], args := [d1, d2] }
  | _ => none }
def DiskNobodyWrongFalsely : Prop := diskNobodyRow.holds Try.pinned (OpenSpec.ofChange diskNobodyWrong)

/-- 'bartizanlaw14.CommitFunds': WHATEVER THE INPUT: true; the input reads as it did. -/
def commitFundsSpec : ChangeSpec := { name := "commitFunds", fn := fun _ => fun
  | [d] => { results := [.lit (.bool true)], args := [d] }
  | _ => none }
def commitFundsRow : OpenClaim := { program := "ytfblececmkimiaa", sum := "439c29dd5b7b011ab6d406cfcad66ad299f5d8ac6219c47a9b823904698272a0", func := "bartizan/bartizanlaw14.CommitFunds", spec := "commitFunds", unfollowed := true, recurses := true, apart := false }
def CommitFundsSaid : Prop := commitFundsRow.holds Try.pinned (OpenSpec.ofChange commitFundsSpec)

/-- ITS FALSE NEIGHBOUR: 'it returns false'. Refute it at one input. -/
def commitFundsWrong : ChangeSpec := { name := "commitFunds", fn := fun _ => fun
  | [d] => { results := [.lit (.bool false)], args := [d] }
  | _ => none }
def CommitFundsWrongFalsely : Prop := commitFundsRow.holds Try.pinned (OpenSpec.ofChange commitFundsWrong)

/-- 'bartizanlaw38.ModelSure': WHATEVER THE INPUT: true; the input reads as it did. -/
def modelSureSpec : ChangeSpec := { name := "modelSure", fn := fun _ => fun
  | [d1, d2, d3] => { results := [.lit (.bool true)], args := [d1, d2, d3] }
  | _ => none }
def modelSureRow : OpenClaim := { program := "ytfblececmkimiaa", sum := "439c29dd5b7b011ab6d406cfcad66ad299f5d8ac6219c47a9b823904698272a0", func := "bartizan/bartizanlaw38.ModelSure", spec := "modelSure", apart := false }
def ModelSureSaid : Prop := modelSureRow.holds Try.pinned (OpenSpec.ofChange modelSureSpec)

/-- ITS FALSE NEIGHBOUR: 'it returns false'. Refute it at one input. -/
def modelSureWrong : ChangeSpec := { name := "modelSure", fn := fun _ => fun
  | [d1, d2, d3] => { results := [.lit (.bool false)], args := [d1, d2, d3] }
  | _ => none }
def ModelSureWrongFalsely : Prop := modelSureRow.holds Try.pinned (OpenSpec.ofChange modelSureWrong)

/-- 'bartizanlaw38.ModelPlays': WHATEVER THE INPUT: true; the input reads as it did. -/
def modelPlaysSpec : ChangeSpec := { name := "modelPlays", fn := fun _ => fun
  | [d1, d2, d3, d4, d5] => { results := [.lit (.bool true)], args := [d1, d2, d3, d4, d5] }
  | _ => none }
def modelPlaysRow : OpenClaim := { program := "ytfblececmkimiaa", sum := "439c29dd5b7b011ab6d406cfcad66ad299f5d8ac6219c47a9b823904698272a0", func := "bartizan/bartizanlaw38.ModelPlays", spec := "modelPlays", apart := false }
def ModelPlaysSaid : Prop := modelPlaysRow.holds Try.pinned (OpenSpec.ofChange modelPlaysSpec)

/-- ITS FALSE NEIGHBOUR: 'it returns false'. Refute it at one input. -/
def modelPlaysWrong : ChangeSpec := { name := "modelPlays", fn := fun _ => fun
  | [d1, d2, d3, d4, d5] => { results := [.lit (.bool false)], args := [d1, d2, d3, d4, d5] }
  | _ => none }
def ModelPlaysWrongFalsely : Prop := modelPlaysRow.holds Try.pinned (OpenSpec.ofChange modelPlaysWrong)

/-- 'bartizanlaw38.ModelNobody': WHATEVER THE INPUT: true; the input reads as it did. -/
def modelNobodySpec : ChangeSpec := { name := "modelNobody", fn := fun _ => fun
  | [d] => { results := [.lit (.bool true)], args := [d] }
  | _ => none }
def modelNobodyRow : OpenClaim := { program := "ytfblececmkimiaa", sum := "439c29dd5b7b011ab6d406cfcad66ad299f5d8ac6219c47a9b823904698272a0", func := "bartizan/bartizanlaw38.ModelNobody", spec := "modelNobody", apart := false }
def ModelNobodySaid : Prop := modelNobodyRow.holds Try.pinned (OpenSpec.ofChange modelNobodySpec)

/-- ITS FALSE NEIGHBOUR: 'it returns false'. Refute it at one input. -/
def modelNobodyWrong : ChangeSpec := { name := "modelNobody", fn := fun _ => fun
  | [d] => { results := [.lit (.bool false)], args := [d] }
  | _ => none }
def ModelNobodyWrongFalsely : Prop := modelNobodyRow.holds Try.pinned (OpenSpec.ofChange modelNobodyWrong)

/-- 'bartizanlaw23.LogSectors': WHATEVER THE INPUT: true; the input reads as it did. -/
def logSectorsSpec : ChangeSpec := { name := "logSectors", fn := fun _ => fun
  | [d1, d2] => { results := [.lit (.bool true)], args := [d1, d2] }
  | _ => none }
def logSectorsRow : OpenClaim := { program := "ytfblececmkimiaa", sum := "439c29dd5b7b011ab6d406cfcad66ad299f5d8ac6219c47a9b823904698272a0", func := "bartizan/bartizanlaw23.LogSectors", spec := "logSectors", apart := false }
def LogSectorsSaid : Prop := logSectorsRow.holds Try.pinned (OpenSpec.ofChange logSectorsSpec)

/-- ITS FALSE NEIGHBOUR: 'it returns false'. Refute it at one input. -/
def logSectorsWrong : ChangeSpec := { name := "logSectors", fn := fun _ => fun
  | [d1, d2] => { results := [.lit (.bool false)], args := [d1, d2] }
  | _ => none }
def LogSectorsWrongFalsely : Prop := logSectorsRow.holds Try.pinned (OpenSpec.ofChange logSectorsWrong)

/- THE SECOND FORM. 'bulk': how many values and letters a reading holds, each counted each time it is reached (what is shared counts as often as it is met; a slice's spare places count too). A statement '..UptoSaid' is the law's where the arguments, and the package variables that the reading takes, are together of bulk at most 1048576: NARROWER than '..Said'. Prove '..Said' where nothing that the law and all that it calls make is longer than what came in: it says more and counts as full. Else prove '..UptoSaid'. A law counts once. -/
mutual
def uptoBulk {H : Type} : DataW H → Nat
  | .lit (.string bytes) => bytes.length + 1
  | .lit _ => 1
  | .nil => 1
  | .ptr d => uptoBulk d + 1
  | .slice elems spare => uptoBulkAll elems + uptoBulkAll spare + 1
  | .agg parts => uptoBulkAll parts + 1
  | .iface _ d => uptoBulk d + 1
  | .map entries => uptoBulkEntries entries + 1
  | .held _ => 1
def uptoBulkAll {H : Type} : List (DataW H) → Nat
  | [] => 0
  | d :: r => uptoBulk d + uptoBulkAll r
def uptoBulkEntries {H : Type} : List (Lit × DataW H) → Nat
  | [] => 0
  | x :: r => uptoBulkEntry x + uptoBulkEntries r
def uptoBulkEntry {H : Type} : Lit × DataW H → Nat
  | (.string bytes, d) => bytes.length + uptoBulk d + 1
  | (_, d) => uptoBulk d + 1
 end
def uptoSmall : (H : Type) → List (DataW H) → Bool := fun _ ds => decide (uptoBulkAll ds ≤ 1048576)
def OpenSpec.upto (s : _root_.Go.ChangeSpec) : _root_.Go.OpenSpec := { _root_.Go.OpenSpec.ofChange s with cond := some uptoSmall }

/-- 'bartizanlaw15.JusticeShares', WHERE WHAT IT READS IS OF BULK AT MOST 1048576: true; the input reads as it did. -/
def justiceSharesUptoRow : OpenClaim := { program := "ytfblececmkimiaa", sum := "439c29dd5b7b011ab6d406cfcad66ad299f5d8ac6219c47a9b823904698272a0", func := "bartizan/bartizanlaw15.JusticeShares", spec := "justiceShares", apart := false, narrowed := true }
def JusticeSharesUptoSaid : Prop := justiceSharesUptoRow.holds Try.pinned (OpenSpec.upto justiceSharesSpec)

/-- 'bartizanlaw06.CoinParts', WHERE WHAT IT READS IS OF BULK AT MOST 1048576: true; the input reads as it did. -/
def coinPartsUptoRow : OpenClaim := { program := "ytfblececmkimiaa", sum := "439c29dd5b7b011ab6d406cfcad66ad299f5d8ac6219c47a9b823904698272a0", func := "bartizan/bartizanlaw06.CoinParts", spec := "coinParts", apart := false, narrowed := true }
def CoinPartsUptoSaid : Prop := coinPartsUptoRow.holds Try.pinned (OpenSpec.upto coinPartsSpec)

/-- 'bartizanlaw06.CoinSums', WHERE WHAT IT READS IS OF BULK AT MOST 1048576: true; the input reads as it did. -/
def coinSumsUptoRow : OpenClaim := { program := "ytfblececmkimiaa", sum := "439c29dd5b7b011ab6d406cfcad66ad299f5d8ac6219c47a9b823904698272a0", func := "bartizan/bartizanlaw06.CoinSums", spec := "coinSums", apart := false, narrowed := true }
def CoinSumsUptoSaid : Prop := coinSumsUptoRow.holds Try.pinned (OpenSpec.upto coinSumsSpec)

/-- 'bartizanlaw06.CoinPurses', WHERE WHAT IT READS IS OF BULK AT MOST 1048576: true; the input reads as it did. -/
def coinPursesUptoRow : OpenClaim := { program := "ytfblececmkimiaa", sum := "439c29dd5b7b011ab6d406cfcad66ad299f5d8ac6219c47a9b823904698272a0", func := "bartizan/bartizanlaw06.CoinPurses", spec := "coinPurses", apart := false, narrowed := true }
def CoinPursesUptoSaid : Prop := coinPursesUptoRow.holds Try.pinned (OpenSpec.upto coinPursesSpec)

/-- 'bartizanlaw22.DiskLoads', WHERE WHAT IT READS IS OF BULK AT MOST 1048576: true; the input reads as it did. -/
def diskLoadsUptoRow : OpenClaim := { program := "ytfblececmkimiaa", sum := "439c29dd5b7b011ab6d406cfcad66ad299f5d8ac6219c47a9b823904698272a0", func := "bartizan/bartizanlaw22.DiskLoads", spec := "diskLoads", apart := false, narrowed := true }
def DiskLoadsUptoSaid : Prop := diskLoadsUptoRow.holds Try.pinned (OpenSpec.upto diskLoadsSpec)

/-- 'bartizanlaw22.DiskPlays', WHERE WHAT IT READS IS OF BULK AT MOST 1048576: true; the input reads as it did. -/
def diskPlaysUptoRow : OpenClaim := { program := "ytfblececmkimiaa", sum := "439c29dd5b7b011ab6d406cfcad66ad299f5d8ac6219c47a9b823904698272a0", func := "bartizan/bartizanlaw22.DiskPlays", spec := "diskPlays", apart := false, narrowed := true }
def DiskPlaysUptoSaid : Prop := diskPlaysUptoRow.holds Try.pinned (OpenSpec.upto diskPlaysSpec)

/-- 'bartizanlaw22.DiskNobody', WHERE WHAT IT READS IS OF BULK AT MOST 1048576: true; the input reads as it did. -/
def diskNobodyUptoRow : OpenClaim := { program := "ytfblececmkimiaa", sum := "439c29dd5b7b011ab6d406cfcad66ad299f5d8ac6219c47a9b823904698272a0", func := "bartizan/bartizanlaw22.DiskNobody", spec := "diskNobody", apart := false, narrowed := true }
def DiskNobodyUptoSaid : Prop := diskNobodyUptoRow.holds Try.pinned (OpenSpec.upto diskNobodySpec)

/-- 'bartizanlaw14.CommitFunds', WHERE WHAT IT READS IS OF BULK AT MOST 1048576: true; the input reads as it did. -/
def commitFundsUptoRow : OpenClaim := { program := "ytfblececmkimiaa", sum := "439c29dd5b7b011ab6d406cfcad66ad299f5d8ac6219c47a9b823904698272a0", func := "bartizan/bartizanlaw14.CommitFunds", spec := "commitFunds", unfollowed := true, recurses := true, apart := false, narrowed := true }
def CommitFundsUptoSaid : Prop := commitFundsUptoRow.holds Try.pinned (OpenSpec.upto commitFundsSpec)

/-- 'bartizanlaw38.ModelSure', WHERE WHAT IT READS IS OF BULK AT MOST 1048576: true; the input reads as it did. -/
def modelSureUptoRow : OpenClaim := { program := "ytfblececmkimiaa", sum := "439c29dd5b7b011ab6d406cfcad66ad299f5d8ac6219c47a9b823904698272a0", func := "bartizan/bartizanlaw38.ModelSure", spec := "modelSure", apart := false, narrowed := true }
def ModelSureUptoSaid : Prop := modelSureUptoRow.holds Try.pinned (OpenSpec.upto modelSureSpec)

/-- 'bartizanlaw38.ModelPlays', WHERE WHAT IT READS IS OF BULK AT MOST 1048576: true; the input reads as it did. -/
def modelPlaysUptoRow : OpenClaim := { program := "ytfblececmkimiaa", sum := "439c29dd5b7b011ab6d406cfcad66ad299f5d8ac6219c47a9b823904698272a0", func := "bartizan/bartizanlaw38.ModelPlays", spec := "modelPlays", apart := false, narrowed := true }
def ModelPlaysUptoSaid : Prop := modelPlaysUptoRow.holds Try.pinned (OpenSpec.upto modelPlaysSpec)

/-- 'bartizanlaw38.ModelNobody', WHERE WHAT IT READS IS OF BULK AT MOST 1048576: true; the input reads as it did. -/
def modelNobodyUptoRow : OpenClaim := { program := "ytfblececmkimiaa", sum := "439c29dd5b7b011ab6d406cfcad66ad299f5d8ac6219c47a9b823904698272a0", func := "bartizan/bartizanlaw38.ModelNobody", spec := "modelNobody", apart := false, narrowed := true }
def ModelNobodyUptoSaid : Prop := modelNobodyUptoRow.holds Try.pinned (OpenSpec.upto modelNobodySpec)

/-- 'bartizanlaw23.LogSectors', WHERE WHAT IT READS IS OF BULK AT MOST 1048576: true; the input reads as it did. -/
def logSectorsUptoRow : OpenClaim := { program := "ytfblececmkimiaa", sum := "439c29dd5b7b011ab6d406cfcad66ad299f5d8ac6219c47a9b823904698272a0", func := "bartizan/bartizanlaw23.LogSectors", spec := "logSectors", apart := false, narrowed := true }
def LogSectorsUptoSaid : Prop := logSectorsUptoRow.holds Try.pinned (OpenSpec.upto logSectorsSpec)

end Rows
end Go.Proofs.Ytfblececmkimiaa
