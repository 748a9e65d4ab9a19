/-
  No cell of these rows narrows 'for every input' (looked for: loops, veiled, ifaces, maps, wideKeys, modest, calm, conditions, laid).
  DERIVED. THE GIVEN ROWS OF THIS SEAT. 10 by the template 'for every input the law returns true; each argument reads behind the call as it read before'; 0 by the template 'total and deterministic' (their statements: YtbempckmbfbjgaaTotals.lean).
  GIVEN WITH THE SEED: the statements are not yours to turn. If you find one false, say at which input.
  Laid BY PROGRAM, IN A SANDBOX (cutbox-rows.mjs): the forced cells as the released guide's own fill.sh prints them over the translation 2340b15b6f6fc887… (all of the seat's roots in one cut). By AI agents, Wed Nov 11 2026. No macro, syntax, notation, axiom, sorry.
-/
import Derived.Test.YtbempckmbfbjgaaChecked
import GoSem.Claim
import GoSem.ClaimJoined
import GoSem.ClaimMapViews
import Derived.JoinedTies
import Derived.KernelRfl
namespace Go.Proofs.Ytbempckmbfbjgaa
/- THE CELL 'sum', in the pinned program and in every row, IS THE sha256 OF THE DUMP (.gsa) THAT YtbempckmbfbjgaaProg.lean LOADS. Nothing in Lean hashes anything: it is a label: what it is worth is what the hold of that sum in a sandbox is worth. -/
noncomputable def Try.pinned : Pinned := { name := "ytbempckmbfbjgaa", sum := "2340b15b6f6fc8870842872d4600951235ad287c85e00afe95d89dbbb8997069", checked := Try.checked }
namespace Rows
def none {H : Type} : Left H := { results := [], args := [] }

/-- 'posthouselaw8.QuotaFitsIsUsed': WHATEVER THE INPUT: true; the input reads as it did. -/
def quotaFitsIsUsedSpec : ChangeSpec := { name := "quotaFitsIsUsed", fn := fun _ => fun
  | [d1, d2, d3] => { results := [.lit (.bool true)], args := [d1, d2, d3] }
  | _ => none }
def quotaFitsIsUsedRow : OpenClaim := { program := "ytbempckmbfbjgaa", sum := "2340b15b6f6fc8870842872d4600951235ad287c85e00afe95d89dbbb8997069", func := "posthouse/posthouselaw8.QuotaFitsIsUsed", spec := "quotaFitsIsUsed", inPlace := ["internal/bytealg.IndexByteString", "internal/bytealg.IndexString"], unfollowed := true, recurses := true, named := ["internal/bytealg.MaxLen"], apart := false }
def QuotaFitsIsUsedSaid : Prop := quotaFitsIsUsedRow.holds Try.pinned (OpenSpec.ofChange quotaFitsIsUsedSpec)

/-- ITS FALSE NEIGHBOUR: 'it returns false'. Refute it at one input. -/
def quotaFitsIsUsedWrong : ChangeSpec := { name := "quotaFitsIsUsed", fn := fun _ => fun
  | [d1, d2, d3] => { results := [.lit (.bool false)], args := [d1, d2, d3] }
  | _ => none }
def QuotaFitsIsUsedWrongFalsely : Prop := quotaFitsIsUsedRow.holds Try.pinned (OpenSpec.ofChange quotaFitsIsUsedWrong)

/-- 'posthouselaw8.QuotaRemovingExcessSuffices': WHATEVER THE INPUT: true; the input reads as it did. -/
def quotaRemovingExcessSufficesSpec : ChangeSpec := { name := "quotaRemovingExcessSuffices", fn := fun _ => fun
  | [d1, d2] => { results := [.lit (.bool true)], args := [d1, d2] }
  | _ => none }
def quotaRemovingExcessSufficesRow : OpenClaim := { program := "ytbempckmbfbjgaa", sum := "2340b15b6f6fc8870842872d4600951235ad287c85e00afe95d89dbbb8997069", func := "posthouse/posthouselaw8.QuotaRemovingExcessSuffices", spec := "quotaRemovingExcessSuffices", inPlace := ["internal/bytealg.IndexByteString", "internal/bytealg.IndexString"], unfollowed := true, recurses := true, named := ["internal/bytealg.MaxLen"], apart := false }
def QuotaRemovingExcessSufficesSaid : Prop := quotaRemovingExcessSufficesRow.holds Try.pinned (OpenSpec.ofChange quotaRemovingExcessSufficesSpec)

/-- ITS FALSE NEIGHBOUR: 'it returns false'. Refute it at one input. -/
def quotaRemovingExcessSufficesWrong : ChangeSpec := { name := "quotaRemovingExcessSuffices", fn := fun _ => fun
  | [d1, d2] => { results := [.lit (.bool false)], args := [d1, d2] }
  | _ => none }
def QuotaRemovingExcessSufficesWrongFalsely : Prop := quotaRemovingExcessSufficesRow.holds Try.pinned (OpenSpec.ofChange quotaRemovingExcessSufficesWrong)

/-- 'posthouselaw8.QuotaSizesAreThoseOfWrite': WHATEVER THE INPUT: true; the input reads as it did. -/
def quotaSizesAreThoseOfWriteSpec : ChangeSpec := { name := "quotaSizesAreThoseOfWrite", fn := fun _ => fun
  | [d1, d2] => { results := [.lit (.bool true)], args := [d1, d2] }
  | _ => none }
def quotaSizesAreThoseOfWriteRow : OpenClaim := { program := "ytbempckmbfbjgaa", sum := "2340b15b6f6fc8870842872d4600951235ad287c85e00afe95d89dbbb8997069", func := "posthouse/posthouselaw8.QuotaSizesAreThoseOfWrite", spec := "quotaSizesAreThoseOfWrite", inPlace := ["internal/bytealg.IndexByteString", "internal/bytealg.IndexString"], unfollowed := true, recurses := true, named := ["internal/bytealg.MaxLen"], apart := false }
def QuotaSizesAreThoseOfWriteSaid : Prop := quotaSizesAreThoseOfWriteRow.holds Try.pinned (OpenSpec.ofChange quotaSizesAreThoseOfWriteSpec)

/-- ITS FALSE NEIGHBOUR: 'it returns false'. Refute it at one input. -/
def quotaSizesAreThoseOfWriteWrong : ChangeSpec := { name := "quotaSizesAreThoseOfWrite", fn := fun _ => fun
  | [d1, d2] => { results := [.lit (.bool false)], args := [d1, d2] }
  | _ => none }
def QuotaSizesAreThoseOfWriteWrongFalsely : Prop := quotaSizesAreThoseOfWriteRow.holds Try.pinned (OpenSpec.ofChange quotaSizesAreThoseOfWriteWrong)

/-- 'posthouselaw8.ViewsMatchSpec': WHATEVER THE INPUT: true; the input reads as it did. -/
def viewsMatchSpecSpec : ChangeSpec := { name := "viewsMatchSpec", fn := fun _ => fun
  | [d1, d2, d3, d4, d5] => { results := [.lit (.bool true)], args := [d1, d2, d3, d4, d5] }
  | _ => none }
def viewsMatchSpecRow : OpenClaim := { program := "ytbempckmbfbjgaa", sum := "2340b15b6f6fc8870842872d4600951235ad287c85e00afe95d89dbbb8997069", func := "posthouse/posthouselaw8.ViewsMatchSpec", spec := "viewsMatchSpec", inPlace := ["internal/bytealg.IndexByteString", "internal/bytealg.IndexString", "slices.overlaps[posthouse/api.Seen]"], unfollowed := true, recurses := true, named := ["internal/bytealg.MaxLen"], apart := false }
def ViewsMatchSpecSaid : Prop := viewsMatchSpecRow.holds Try.pinned (OpenSpec.ofChange viewsMatchSpecSpec)

/-- ITS FALSE NEIGHBOUR: 'it returns false'. Refute it at one input. -/
def viewsMatchSpecWrong : ChangeSpec := { name := "viewsMatchSpec", fn := fun _ => fun
  | [d1, d2, d3, d4, d5] => { results := [.lit (.bool false)], args := [d1, d2, d3, d4, d5] }
  | _ => none }
def ViewsMatchSpecWrongFalsely : Prop := viewsMatchSpecRow.holds Try.pinned (OpenSpec.ofChange viewsMatchSpecWrong)

/-- 'posthouselaw8.ResyncMatchesSpec': WHATEVER THE INPUT: true; the input reads as it did. -/
def resyncMatchesSpecSpec : ChangeSpec := { name := "resyncMatchesSpec", fn := fun _ => fun
  | [d1, d2, d3] => { results := [.lit (.bool true)], args := [d1, d2, d3] }
  | _ => none }
def resyncMatchesSpecRow : OpenClaim := { program := "ytbempckmbfbjgaa", sum := "2340b15b6f6fc8870842872d4600951235ad287c85e00afe95d89dbbb8997069", func := "posthouse/posthouselaw8.ResyncMatchesSpec", spec := "resyncMatchesSpec", inPlace := ["internal/bytealg.IndexByteString", "internal/bytealg.IndexString", "slices.overlaps[posthouse/api.Seen]"], unfollowed := true, recurses := true, named := ["internal/bytealg.MaxLen"], apart := false }
def ResyncMatchesSpecSaid : Prop := resyncMatchesSpecRow.holds Try.pinned (OpenSpec.ofChange resyncMatchesSpecSpec)

/-- ITS FALSE NEIGHBOUR: 'it returns false'. Refute it at one input. -/
def resyncMatchesSpecWrong : ChangeSpec := { name := "resyncMatchesSpec", fn := fun _ => fun
  | [d1, d2, d3] => { results := [.lit (.bool false)], args := [d1, d2, d3] }
  | _ => none }
def ResyncMatchesSpecWrongFalsely : Prop := resyncMatchesSpecRow.holds Try.pinned (OpenSpec.ofChange resyncMatchesSpecWrong)

/-- 'posthouselaw8.ResyncChangesAddUp': WHATEVER THE INPUT: true; the input reads as it did. -/
def resyncChangesAddUpSpec : ChangeSpec := { name := "resyncChangesAddUp", fn := fun _ => fun
  | [d1, d2, d3] => { results := [.lit (.bool true)], args := [d1, d2, d3] }
  | _ => none }
def resyncChangesAddUpRow : OpenClaim := { program := "ytbempckmbfbjgaa", sum := "2340b15b6f6fc8870842872d4600951235ad287c85e00afe95d89dbbb8997069", func := "posthouse/posthouselaw8.ResyncChangesAddUp", spec := "resyncChangesAddUp", inPlace := ["internal/bytealg.IndexByteString", "internal/bytealg.IndexString", "slices.overlaps[posthouse/api.Seen]"], unfollowed := true, recurses := true, named := ["internal/bytealg.MaxLen"], apart := false }
def ResyncChangesAddUpSaid : Prop := resyncChangesAddUpRow.holds Try.pinned (OpenSpec.ofChange resyncChangesAddUpSpec)

/-- ITS FALSE NEIGHBOUR: 'it returns false'. Refute it at one input. -/
def resyncChangesAddUpWrong : ChangeSpec := { name := "resyncChangesAddUp", fn := fun _ => fun
  | [d1, d2, d3] => { results := [.lit (.bool false)], args := [d1, d2, d3] }
  | _ => none }
def ResyncChangesAddUpWrongFalsely : Prop := resyncChangesAddUpRow.holds Try.pinned (OpenSpec.ofChange resyncChangesAddUpWrong)

/-- 'posthouselaw8.ViewsShowTheirMailbox': WHATEVER THE INPUT: true; the input reads as it did. -/
def viewsShowTheirMailboxSpec : ChangeSpec := { name := "viewsShowTheirMailbox", fn := fun _ => fun
  | [d1, d2] => { results := [.lit (.bool true)], args := [d1, d2] }
  | _ => none }
def viewsShowTheirMailboxRow : OpenClaim := { program := "ytbempckmbfbjgaa", sum := "2340b15b6f6fc8870842872d4600951235ad287c85e00afe95d89dbbb8997069", func := "posthouse/posthouselaw8.ViewsShowTheirMailbox", spec := "viewsShowTheirMailbox", inPlace := ["internal/bytealg.IndexByteString", "internal/bytealg.IndexString", "slices.overlaps[posthouse/api.Seen]"], unfollowed := true, recurses := true, named := ["internal/bytealg.MaxLen"], apart := false }
def ViewsShowTheirMailboxSaid : Prop := viewsShowTheirMailboxRow.holds Try.pinned (OpenSpec.ofChange viewsShowTheirMailboxSpec)

/-- ITS FALSE NEIGHBOUR: 'it returns false'. Refute it at one input. -/
def viewsShowTheirMailboxWrong : ChangeSpec := { name := "viewsShowTheirMailbox", fn := fun _ => fun
  | [d1, d2] => { results := [.lit (.bool false)], args := [d1, d2] }
  | _ => none }
def ViewsShowTheirMailboxWrongFalsely : Prop := viewsShowTheirMailboxRow.holds Try.pinned (OpenSpec.ofChange viewsShowTheirMailboxWrong)

/-- 'posthouselaw8.ResyncTellsOneChange': WHATEVER THE INPUT: true; the input reads as it did. -/
def resyncTellsOneChangeSpec : ChangeSpec := { name := "resyncTellsOneChange", fn := fun _ => fun
  | [d1, d2] => { results := [.lit (.bool true)], args := [d1, d2] }
  | _ => none }
def resyncTellsOneChangeRow : OpenClaim := { program := "ytbempckmbfbjgaa", sum := "2340b15b6f6fc8870842872d4600951235ad287c85e00afe95d89dbbb8997069", func := "posthouse/posthouselaw8.ResyncTellsOneChange", spec := "resyncTellsOneChange", inPlace := ["internal/bytealg.IndexByteString", "internal/bytealg.IndexString", "slices.overlaps[posthouse/api.Seen]"], unfollowed := true, recurses := true, named := ["internal/bytealg.MaxLen"], apart := false }
def ResyncTellsOneChangeSaid : Prop := resyncTellsOneChangeRow.holds Try.pinned (OpenSpec.ofChange resyncTellsOneChangeSpec)

/-- ITS FALSE NEIGHBOUR: 'it returns false'. Refute it at one input. -/
def resyncTellsOneChangeWrong : ChangeSpec := { name := "resyncTellsOneChange", fn := fun _ => fun
  | [d1, d2] => { results := [.lit (.bool false)], args := [d1, d2] }
  | _ => none }
def ResyncTellsOneChangeWrongFalsely : Prop := resyncTellsOneChangeRow.holds Try.pinned (OpenSpec.ofChange resyncTellsOneChangeWrong)

/-- 'posthouselaw8.ResyncCatchesUp': WHATEVER THE INPUT: true; the input reads as it did. -/
def resyncCatchesUpSpec : ChangeSpec := { name := "resyncCatchesUp", fn := fun _ => fun
  | [d1, d2, d3] => { results := [.lit (.bool true)], args := [d1, d2, d3] }
  | _ => none }
def resyncCatchesUpRow : OpenClaim := { program := "ytbempckmbfbjgaa", sum := "2340b15b6f6fc8870842872d4600951235ad287c85e00afe95d89dbbb8997069", func := "posthouse/posthouselaw8.ResyncCatchesUp", spec := "resyncCatchesUp", inPlace := ["internal/bytealg.IndexByteString", "internal/bytealg.IndexString", "slices.overlaps[posthouse/api.Seen]"], unfollowed := true, recurses := true, named := ["internal/bytealg.MaxLen"], apart := false }
def ResyncCatchesUpSaid : Prop := resyncCatchesUpRow.holds Try.pinned (OpenSpec.ofChange resyncCatchesUpSpec)

/-- ITS FALSE NEIGHBOUR: 'it returns false'. Refute it at one input. -/
def resyncCatchesUpWrong : ChangeSpec := { name := "resyncCatchesUp", fn := fun _ => fun
  | [d1, d2, d3] => { results := [.lit (.bool false)], args := [d1, d2, d3] }
  | _ => none }
def ResyncCatchesUpWrongFalsely : Prop := resyncCatchesUpRow.holds Try.pinned (OpenSpec.ofChange resyncCatchesUpWrong)

/-- 'posthouselaw8.OfflineReportsAll': WHATEVER THE INPUT: true; the input reads as it did. -/
def offlineReportsAllSpec : ChangeSpec := { name := "offlineReportsAll", fn := fun _ => fun
  | [d1, d2] => { results := [.lit (.bool true)], args := [d1, d2] }
  | _ => none }
def offlineReportsAllRow : OpenClaim := { program := "ytbempckmbfbjgaa", sum := "2340b15b6f6fc8870842872d4600951235ad287c85e00afe95d89dbbb8997069", func := "posthouse/posthouselaw8.OfflineReportsAll", spec := "offlineReportsAll", inPlace := ["internal/bytealg.IndexByteString", "internal/bytealg.IndexString", "slices.overlaps[posthouse/api.Seen]"], unfollowed := true, recurses := true, named := ["internal/bytealg.MaxLen"], apart := false }
def OfflineReportsAllSaid : Prop := offlineReportsAllRow.holds Try.pinned (OpenSpec.ofChange offlineReportsAllSpec)

/-- ITS FALSE NEIGHBOUR: 'it returns false'. Refute it at one input. -/
def offlineReportsAllWrong : ChangeSpec := { name := "offlineReportsAll", fn := fun _ => fun
  | [d1, d2] => { results := [.lit (.bool false)], args := [d1, d2] }
  | _ => none }
def OfflineReportsAllWrongFalsely : Prop := offlineReportsAllRow.holds Try.pinned (OpenSpec.ofChange offlineReportsAllWrong)

/- THE SECOND FORM. 'bulk': how many values and letters a reading holds, each counted each time it is reached (what is shared counts as often as it is met; a slice's spare places count too). A statement '..UptoSaid' is the law's where the arguments, and the package variables that the reading takes, are together of bulk at most 1048576: NARROWER than '..Said'. Prove '..Said' where nothing that the law and all that it calls make is longer than what came in: it says more and counts as full. Else prove '..UptoSaid'. A law counts once. -/
mutual
def uptoBulk {H : Type} : DataW H → Nat
  | .lit (.string bytes) => bytes.length + 1
  | .lit _ => 1
  | .nil => 1
  | .ptr d => uptoBulk d + 1
  | .slice elems spare => uptoBulkAll elems + uptoBulkAll spare + 1
  | .agg parts => uptoBulkAll parts + 1
  | .iface _ d => uptoBulk d + 1
  | .map entries => uptoBulkEntries entries + 1
  | .held _ => 1
def uptoBulkAll {H : Type} : List (DataW H) → Nat
  | [] => 0
  | d :: r => uptoBulk d + uptoBulkAll r
def uptoBulkEntries {H : Type} : List (Lit × DataW H) → Nat
  | [] => 0
  | x :: r => uptoBulkEntry x + uptoBulkEntries r
def uptoBulkEntry {H : Type} : Lit × DataW H → Nat
  | (.string bytes, d) => bytes.length + uptoBulk d + 1
  | (_, d) => uptoBulk d + 1
 end
def uptoSmall : (H : Type) → List (DataW H) → Bool := fun _ ds => decide (uptoBulkAll ds ≤ 1048576)
def OpenSpec.upto (s : _root_.Go.ChangeSpec) : _root_.Go.OpenSpec := { _root_.Go.OpenSpec.ofChange s with cond := some uptoSmall }

/-- 'posthouselaw8.QuotaFitsIsUsed', WHERE WHAT IT READS IS OF BULK AT MOST 1048576: true; the input reads as it did. -/
def quotaFitsIsUsedUptoRow : OpenClaim := { program := "ytbempckmbfbjgaa", sum := "2340b15b6f6fc8870842872d4600951235ad287c85e00afe95d89dbbb8997069", func := "posthouse/posthouselaw8.QuotaFitsIsUsed", spec := "quotaFitsIsUsed", inPlace := ["internal/bytealg.IndexByteString", "internal/bytealg.IndexString"], unfollowed := true, recurses := true, named := ["internal/bytealg.MaxLen"], apart := false, narrowed := true }
def QuotaFitsIsUsedUptoSaid : Prop := quotaFitsIsUsedUptoRow.holds Try.pinned (OpenSpec.upto quotaFitsIsUsedSpec)

/-- 'posthouselaw8.QuotaRemovingExcessSuffices', WHERE WHAT IT READS IS OF BULK AT MOST 1048576: true; the input reads as it did. -/
def quotaRemovingExcessSufficesUptoRow : OpenClaim := { program := "ytbempckmbfbjgaa", sum := "2340b15b6f6fc8870842872d4600951235ad287c85e00afe95d89dbbb8997069", func := "posthouse/posthouselaw8.QuotaRemovingExcessSuffices", spec := "quotaRemovingExcessSuffices", inPlace := ["internal/bytealg.IndexByteString", "internal/bytealg.IndexString"], unfollowed := true, recurses := true, named := ["internal/bytealg.MaxLen"], apart := false, narrowed := true }
def QuotaRemovingExcessSufficesUptoSaid : Prop := quotaRemovingExcessSufficesUptoRow.holds Try.pinned (OpenSpec.upto quotaRemovingExcessSufficesSpec)

/-- 'posthouselaw8.QuotaSizesAreThoseOfWrite', WHERE WHAT IT READS IS OF BULK AT MOST 1048576: true; the input reads as it did. -/
def quotaSizesAreThoseOfWriteUptoRow : OpenClaim := { program := "ytbempckmbfbjgaa", sum := "2340b15b6f6fc8870842872d4600951235ad287c85e00afe95d89dbbb8997069", func := "posthouse/posthouselaw8.QuotaSizesAreThoseOfWrite", spec := "quotaSizesAreThoseOfWrite", inPlace := ["internal/bytealg.IndexByteString", "internal/bytealg.IndexString"], unfollowed := true, recurses := true, named := ["internal/bytealg.MaxLen"], apart := false, narrowed := true }
def QuotaSizesAreThoseOfWriteUptoSaid : Prop := quotaSizesAreThoseOfWriteUptoRow.holds Try.pinned (OpenSpec.upto quotaSizesAreThoseOfWriteSpec)

/-- 'posthouselaw8.ViewsMatchSpec', WHERE WHAT IT READS IS OF BULK AT MOST 1048576: true; the input reads as it did. -/
def viewsMatchSpecUptoRow : OpenClaim := { program := "ytbempckmbfbjgaa", sum := "2340b15b6f6fc8870842872d4600951235ad287c85e00afe95d89dbbb8997069", func := "posthouse/posthouselaw8.ViewsMatchSpec", spec := "viewsMatchSpec", inPlace := ["internal/bytealg.IndexByteString", "internal/bytealg.IndexString", "slices.overlaps[posthouse/api.Seen]"], unfollowed := true, recurses := true, named := ["internal/bytealg.MaxLen"], apart := false, narrowed := true }
def ViewsMatchSpecUptoSaid : Prop := viewsMatchSpecUptoRow.holds Try.pinned (OpenSpec.upto viewsMatchSpecSpec)

/-- 'posthouselaw8.ResyncMatchesSpec', WHERE WHAT IT READS IS OF BULK AT MOST 1048576: true; the input reads as it did. -/
def resyncMatchesSpecUptoRow : OpenClaim := { program := "ytbempckmbfbjgaa", sum := "2340b15b6f6fc8870842872d4600951235ad287c85e00afe95d89dbbb8997069", func := "posthouse/posthouselaw8.ResyncMatchesSpec", spec := "resyncMatchesSpec", inPlace := ["internal/bytealg.IndexByteString", "internal/bytealg.IndexString", "slices.overlaps[posthouse/api.Seen]"], unfollowed := true, recurses := true, named := ["internal/bytealg.MaxLen"], apart := false, narrowed := true }
def ResyncMatchesSpecUptoSaid : Prop := resyncMatchesSpecUptoRow.holds Try.pinned (OpenSpec.upto resyncMatchesSpecSpec)

/-- 'posthouselaw8.ResyncChangesAddUp', WHERE WHAT IT READS IS OF BULK AT MOST 1048576: true; the input reads as it did. -/
def resyncChangesAddUpUptoRow : OpenClaim := { program := "ytbempckmbfbjgaa", sum := "2340b15b6f6fc8870842872d4600951235ad287c85e00afe95d89dbbb8997069", func := "posthouse/posthouselaw8.ResyncChangesAddUp", spec := "resyncChangesAddUp", inPlace := ["internal/bytealg.IndexByteString", "internal/bytealg.IndexString", "slices.overlaps[posthouse/api.Seen]"], unfollowed := true, recurses := true, named := ["internal/bytealg.MaxLen"], apart := false, narrowed := true }
def ResyncChangesAddUpUptoSaid : Prop := resyncChangesAddUpUptoRow.holds Try.pinned (OpenSpec.upto resyncChangesAddUpSpec)

/-- 'posthouselaw8.ViewsShowTheirMailbox', WHERE WHAT IT READS IS OF BULK AT MOST 1048576: true; the input reads as it did. -/
def viewsShowTheirMailboxUptoRow : OpenClaim := { program := "ytbempckmbfbjgaa", sum := "2340b15b6f6fc8870842872d4600951235ad287c85e00afe95d89dbbb8997069", func := "posthouse/posthouselaw8.ViewsShowTheirMailbox", spec := "viewsShowTheirMailbox", inPlace := ["internal/bytealg.IndexByteString", "internal/bytealg.IndexString", "slices.overlaps[posthouse/api.Seen]"], unfollowed := true, recurses := true, named := ["internal/bytealg.MaxLen"], apart := false, narrowed := true }
def ViewsShowTheirMailboxUptoSaid : Prop := viewsShowTheirMailboxUptoRow.holds Try.pinned (OpenSpec.upto viewsShowTheirMailboxSpec)

/-- 'posthouselaw8.ResyncTellsOneChange', WHERE WHAT IT READS IS OF BULK AT MOST 1048576: true; the input reads as it did. -/
def resyncTellsOneChangeUptoRow : OpenClaim := { program := "ytbempckmbfbjgaa", sum := "2340b15b6f6fc8870842872d4600951235ad287c85e00afe95d89dbbb8997069", func := "posthouse/posthouselaw8.ResyncTellsOneChange", spec := "resyncTellsOneChange", inPlace := ["internal/bytealg.IndexByteString", "internal/bytealg.IndexString", "slices.overlaps[posthouse/api.Seen]"], unfollowed := true, recurses := true, named := ["internal/bytealg.MaxLen"], apart := false, narrowed := true }
def ResyncTellsOneChangeUptoSaid : Prop := resyncTellsOneChangeUptoRow.holds Try.pinned (OpenSpec.upto resyncTellsOneChangeSpec)

/-- 'posthouselaw8.ResyncCatchesUp', WHERE WHAT IT READS IS OF BULK AT MOST 1048576: true; the input reads as it did. -/
def resyncCatchesUpUptoRow : OpenClaim := { program := "ytbempckmbfbjgaa", sum := "2340b15b6f6fc8870842872d4600951235ad287c85e00afe95d89dbbb8997069", func := "posthouse/posthouselaw8.ResyncCatchesUp", spec := "resyncCatchesUp", inPlace := ["internal/bytealg.IndexByteString", "internal/bytealg.IndexString", "slices.overlaps[posthouse/api.Seen]"], unfollowed := true, recurses := true, named := ["internal/bytealg.MaxLen"], apart := false, narrowed := true }
def ResyncCatchesUpUptoSaid : Prop := resyncCatchesUpUptoRow.holds Try.pinned (OpenSpec.upto resyncCatchesUpSpec)

/-- 'posthouselaw8.OfflineReportsAll', WHERE WHAT IT READS IS OF BULK AT MOST 1048576: true; the input reads as it did. -/
def offlineReportsAllUptoRow : OpenClaim := { program := "ytbempckmbfbjgaa", sum := "2340b15b6f6fc8870842872d4600951235ad287c85e00afe95d89dbbb8997069", func := "posthouse/posthouselaw8.OfflineReportsAll", spec := "offlineReportsAll", inPlace := ["internal/bytealg.IndexByteString", "internal/bytealg.IndexString", "slices.overlaps[posthouse/api.Seen]"], unfollowed := true, recurses := true, named := ["internal/bytealg.MaxLen"], apart := false, narrowed := true }
def OfflineReportsAllUptoSaid : Prop := offlineReportsAllUptoRow.holds Try.pinned (OpenSpec.upto offlineReportsAllSpec)

end Rows
end Go.Proofs.Ytbempckmbfbjgaa
