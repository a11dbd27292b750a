/-
  No cell of these rows narrows 'for every input' (looked for: loops, veiled, ifaces, maps, wideKeys, modest, calm, conditions, laid).
  DERIVED. THE GIVEN ROWS OF THIS SEAT. 7 by the template 'for every input the law returns true; each argument reads behind the call as it read before'; 0 by the template 'total and deterministic' (their statements: YtghdinkgfpfdoaaGreatTotals.lean).
  GIVEN WITH THE SEED: the statements are not yours to turn. If you find one false, say at which input.
  Laid BY PROGRAM, IN A SANDBOX (cutbox-rows.mjs): the forced cells as the released guide's own fill.sh prints them over the translation d20217747798d399… (all of the seat's roots in one cut). By AI agents, Wed Nov 11 2026. No macro, syntax, notation, axiom, sorry.
-/
import Derived.Test.YtghdinkgfpfdoaaGreatChecked
import GoSem.Claim
import GoSem.ClaimJoined
import GoSem.ClaimMapViews
import Derived.JoinedTies
import Derived.KernelRfl
namespace Go.Proofs.YtghdinkgfpfdoaaGreat
/- THE CELL 'sum', in the pinned program and in every row, IS THE sha256 OF THE DUMP (.gsa) THAT YtghdinkgfpfdoaaGreatProg.lean LOADS. Nothing in Lean hashes anything: it is a label: what it is worth is what the hold of that sum in a sandbox is worth. -/
noncomputable def Tryz.pinned : Pinned := { name := "ytghdinkgfpfdoaagreat", sum := "d20217747798d399dc3c92643dd950a7184e12742557c0a17d5a5b46d30671a5", checked := Tryz.checked }
namespace Rows
def none {H : Type} : Left H := { results := [], args := [] }

/-- 'storagebarterlaw35.BackupMakes': WHATEVER THE INPUT: true; the input reads as it did. -/
def backupMakesSpec : ChangeSpec := { name := "backupMakes", fn := fun _ => fun
  | [d1, d2, d3, d4, d5, d6, d7] => { results := [.lit (.bool true)], args := [d1, d2, d3, d4, d5, d6, d7] }
  | _ => none }
def backupMakesRow : OpenClaim := { program := "ytghdinkgfpfdoaagreat", sum := "d20217747798d399dc3c92643dd950a7184e12742557c0a17d5a5b46d30671a5", func := "storagebarter/storagebarterlaw35.BackupMakes", spec := "backupMakes", inPlace := ["internal/abi.NoEscape", "internal/bytealg.MakeNoZero"], unfollowed := true, recurses := true, plainKeys := false, apart := false }
def BackupMakesSaid : Prop := backupMakesRow.holds Tryz.pinned (OpenSpec.ofChange backupMakesSpec)

/-- ITS FALSE NEIGHBOUR: 'it returns false'. Refute it at one input. -/
def backupMakesWrong : ChangeSpec := { name := "backupMakes", fn := fun _ => fun
  | [d1, d2, d3, d4, d5, d6, d7] => { results := [.lit (.bool false)], args := [d1, d2, d3, d4, d5, d6, d7] }
  | _ => none }
def BackupMakesWrongFalsely : Prop := backupMakesRow.holds Tryz.pinned (OpenSpec.ofChange backupMakesWrong)

/-- 'storagebarterlaw35.BackupSpreads': WHATEVER THE INPUT: true; the input reads as it did. -/
def backupSpreadsSpec : ChangeSpec := { name := "backupSpreads", fn := fun _ => fun
  | [d] => { results := [.lit (.bool true)], args := [d] }
  | _ => none }
def backupSpreadsRow : OpenClaim := { program := "ytghdinkgfpfdoaagreat", sum := "d20217747798d399dc3c92643dd950a7184e12742557c0a17d5a5b46d30671a5", func := "storagebarter/storagebarterlaw35.BackupSpreads", spec := "backupSpreads", inPlace := ["internal/abi.NoEscape", "internal/bytealg.MakeNoZero"], unfollowed := true, recurses := true, plainKeys := false, apart := false }
def BackupSpreadsSaid : Prop := backupSpreadsRow.holds Tryz.pinned (OpenSpec.ofChange backupSpreadsSpec)

/-- ITS FALSE NEIGHBOUR: 'it returns false'. Refute it at one input. -/
def backupSpreadsWrong : ChangeSpec := { name := "backupSpreads", fn := fun _ => fun
  | [d] => { results := [.lit (.bool false)], args := [d] }
  | _ => none }
def BackupSpreadsWrongFalsely : Prop := backupSpreadsRow.holds Tryz.pinned (OpenSpec.ofChange backupSpreadsWrong)

/-- 'storagebarterlaw35.BackupCuts': WHATEVER THE INPUT: true; the input reads as it did. -/
def backupCutsSpec : ChangeSpec := { name := "backupCuts", fn := fun _ => fun
  | [d1, d2] => { results := [.lit (.bool true)], args := [d1, d2] }
  | _ => none }
def backupCutsRow : OpenClaim := { program := "ytghdinkgfpfdoaagreat", sum := "d20217747798d399dc3c92643dd950a7184e12742557c0a17d5a5b46d30671a5", func := "storagebarter/storagebarterlaw35.BackupCuts", spec := "backupCuts", inPlace := ["internal/abi.NoEscape", "internal/bytealg.MakeNoZero"], unfollowed := true, recurses := true, plainKeys := false, apart := false }
def BackupCutsSaid : Prop := backupCutsRow.holds Tryz.pinned (OpenSpec.ofChange backupCutsSpec)

/-- ITS FALSE NEIGHBOUR: 'it returns false'. Refute it at one input. -/
def backupCutsWrong : ChangeSpec := { name := "backupCuts", fn := fun _ => fun
  | [d1, d2] => { results := [.lit (.bool false)], args := [d1, d2] }
  | _ => none }
def BackupCutsWrongFalsely : Prop := backupCutsRow.holds Tryz.pinned (OpenSpec.ofChange backupCutsWrong)

/-- 'storagebarterlaw35.BackupPuts': WHATEVER THE INPUT: true; the input reads as it did. -/
def backupPutsSpec : ChangeSpec := { name := "backupPuts", fn := fun _ => fun
  | [d] => { results := [.lit (.bool true)], args := [d] }
  | _ => none }
def backupPutsRow : OpenClaim := { program := "ytghdinkgfpfdoaagreat", sum := "d20217747798d399dc3c92643dd950a7184e12742557c0a17d5a5b46d30671a5", func := "storagebarter/storagebarterlaw35.BackupPuts", spec := "backupPuts", inPlace := ["internal/abi.NoEscape", "internal/bytealg.MakeNoZero", "slices.overlaps[storagebarter/api.Place]"], unfollowed := true, recurses := true, plainKeys := false, apart := false }
def BackupPutsSaid : Prop := backupPutsRow.holds Tryz.pinned (OpenSpec.ofChange backupPutsSpec)

/-- ITS FALSE NEIGHBOUR: 'it returns false'. Refute it at one input. -/
def backupPutsWrong : ChangeSpec := { name := "backupPuts", fn := fun _ => fun
  | [d] => { results := [.lit (.bool false)], args := [d] }
  | _ => none }
def BackupPutsWrongFalsely : Prop := backupPutsRow.holds Tryz.pinned (OpenSpec.ofChange backupPutsWrong)

/-- 'storagebarterlaw45.AuditHolds': WHATEVER THE INPUT: true; the input reads as it did. -/
def auditHoldsSpec : ChangeSpec := { name := "auditHolds", fn := fun _ => fun
  | [d] => { results := [.lit (.bool true)], args := [d] }
  | _ => none }
def auditHoldsRow : OpenClaim := { program := "ytghdinkgfpfdoaagreat", sum := "d20217747798d399dc3c92643dd950a7184e12742557c0a17d5a5b46d30671a5", func := "storagebarter/storagebarterlaw45.AuditHolds", spec := "auditHolds", inPlace := ["internal/abi.NoEscape", "internal/bytealg.MakeNoZero"], unfollowed := true, recurses := true, plainKeys := false, apart := false }
def AuditHoldsSaid : Prop := auditHoldsRow.holds Tryz.pinned (OpenSpec.ofChange auditHoldsSpec)

/-- ITS FALSE NEIGHBOUR: 'it returns false'. Refute it at one input. -/
def auditHoldsWrong : ChangeSpec := { name := "auditHolds", fn := fun _ => fun
  | [d] => { results := [.lit (.bool false)], args := [d] }
  | _ => none }
def AuditHoldsWrongFalsely : Prop := auditHoldsRow.holds Tryz.pinned (OpenSpec.ofChange auditHoldsWrong)

/-- 'storagebarterlaw45.AuditScripts': WHATEVER THE INPUT: true; the input reads as it did. -/
def auditScriptsSpec : ChangeSpec := { name := "auditScripts", fn := fun _ => fun
  | [d1, d2, d3] => { results := [.lit (.bool true)], args := [d1, d2, d3] }
  | _ => none }
def auditScriptsRow : OpenClaim := { program := "ytghdinkgfpfdoaagreat", sum := "d20217747798d399dc3c92643dd950a7184e12742557c0a17d5a5b46d30671a5", func := "storagebarter/storagebarterlaw45.AuditScripts", spec := "auditScripts", inPlace := ["internal/abi.NoEscape", "internal/bytealg.MakeNoZero"], unfollowed := true, recurses := true, plainKeys := false, apart := false }
def AuditScriptsSaid : Prop := auditScriptsRow.holds Tryz.pinned (OpenSpec.ofChange auditScriptsSpec)

/-- ITS FALSE NEIGHBOUR: 'it returns false'. Refute it at one input. -/
def auditScriptsWrong : ChangeSpec := { name := "auditScripts", fn := fun _ => fun
  | [d1, d2, d3] => { results := [.lit (.bool false)], args := [d1, d2, d3] }
  | _ => none }
def AuditScriptsWrongFalsely : Prop := auditScriptsRow.holds Tryz.pinned (OpenSpec.ofChange auditScriptsWrong)

/-- 'storagebarterlaw45.AuditGames': WHATEVER THE INPUT: true; the input reads as it did. -/
def auditGamesSpec : ChangeSpec := { name := "auditGames", fn := fun _ => fun
  | [d] => { results := [.lit (.bool true)], args := [d] }
  | _ => none }
def auditGamesRow : OpenClaim := { program := "ytghdinkgfpfdoaagreat", sum := "d20217747798d399dc3c92643dd950a7184e12742557c0a17d5a5b46d30671a5", func := "storagebarter/storagebarterlaw45.AuditGames", spec := "auditGames", inPlace := ["internal/abi.NoEscape", "internal/bytealg.MakeNoZero"], unfollowed := true, recurses := true, plainKeys := false, apart := false }
def AuditGamesSaid : Prop := auditGamesRow.holds Tryz.pinned (OpenSpec.ofChange auditGamesSpec)

/-- ITS FALSE NEIGHBOUR: 'it returns false'. Refute it at one input. -/
def auditGamesWrong : ChangeSpec := { name := "auditGames", fn := fun _ => fun
  | [d] => { results := [.lit (.bool false)], args := [d] }
  | _ => none }
def AuditGamesWrongFalsely : Prop := auditGamesRow.holds Tryz.pinned (OpenSpec.ofChange auditGamesWrong)

/- THE SECOND FORM. 'bulk': how many values and letters a reading holds, each counted each time it is reached (what is shared counts as often as it is met; a slice's spare places count too). A statement '..UptoSaid' is the law's where the arguments, and the package variables that the reading takes, are together of bulk at most 1048576: NARROWER than '..Said'. Prove '..Said' where nothing that the law and all that it calls make is longer than what came in: it says more and counts as full. Else prove '..UptoSaid'. A law counts once. -/
mutual
def uptoBulk {H : Type} : DataW H → Nat
  | .lit (.string bytes) => bytes.length + 1
  | .lit _ => 1
  | .nil => 1
  | .ptr d => uptoBulk d + 1
  | .slice elems spare => uptoBulkAll elems + uptoBulkAll spare + 1
  | .agg parts => uptoBulkAll parts + 1
  | .iface _ d => uptoBulk d + 1
  | .map entries => uptoBulkEntries entries + 1
  | .held _ => 1
def uptoBulkAll {H : Type} : List (DataW H) → Nat
  | [] => 0
  | d :: r => uptoBulk d + uptoBulkAll r
def uptoBulkEntries {H : Type} : List (Lit × DataW H) → Nat
  | [] => 0
  | x :: r => uptoBulkEntry x + uptoBulkEntries r
def uptoBulkEntry {H : Type} : Lit × DataW H → Nat
  | (.string bytes, d) => bytes.length + uptoBulk d + 1
  | (_, d) => uptoBulk d + 1
 end
def uptoSmall : (H : Type) → List (DataW H) → Bool := fun _ ds => decide (uptoBulkAll ds ≤ 1048576)
def OpenSpec.upto (s : _root_.Go.ChangeSpec) : _root_.Go.OpenSpec := { _root_.Go.OpenSpec.ofChange s with cond := some uptoSmall }

/-- 'storagebarterlaw35.BackupMakes', WHERE WHAT IT READS IS OF BULK AT MOST 1048576: true; the input reads as it did. -/
def backupMakesUptoRow : OpenClaim := { program := "ytghdinkgfpfdoaagreat", sum := "d20217747798d399dc3c92643dd950a7184e12742557c0a17d5a5b46d30671a5", func := "storagebarter/storagebarterlaw35.BackupMakes", spec := "backupMakes", inPlace := ["internal/abi.NoEscape", "internal/bytealg.MakeNoZero"], unfollowed := true, recurses := true, plainKeys := false, apart := false, narrowed := true }
def BackupMakesUptoSaid : Prop := backupMakesUptoRow.holds Tryz.pinned (OpenSpec.upto backupMakesSpec)

/-- 'storagebarterlaw35.BackupSpreads', WHERE WHAT IT READS IS OF BULK AT MOST 1048576: true; the input reads as it did. -/
def backupSpreadsUptoRow : OpenClaim := { program := "ytghdinkgfpfdoaagreat", sum := "d20217747798d399dc3c92643dd950a7184e12742557c0a17d5a5b46d30671a5", func := "storagebarter/storagebarterlaw35.BackupSpreads", spec := "backupSpreads", inPlace := ["internal/abi.NoEscape", "internal/bytealg.MakeNoZero"], unfollowed := true, recurses := true, plainKeys := false, apart := false, narrowed := true }
def BackupSpreadsUptoSaid : Prop := backupSpreadsUptoRow.holds Tryz.pinned (OpenSpec.upto backupSpreadsSpec)

/-- 'storagebarterlaw35.BackupCuts', WHERE WHAT IT READS IS OF BULK AT MOST 1048576: true; the input reads as it did. -/
def backupCutsUptoRow : OpenClaim := { program := "ytghdinkgfpfdoaagreat", sum := "d20217747798d399dc3c92643dd950a7184e12742557c0a17d5a5b46d30671a5", func := "storagebarter/storagebarterlaw35.BackupCuts", spec := "backupCuts", inPlace := ["internal/abi.NoEscape", "internal/bytealg.MakeNoZero"], unfollowed := true, recurses := true, plainKeys := false, apart := false, narrowed := true }
def BackupCutsUptoSaid : Prop := backupCutsUptoRow.holds Tryz.pinned (OpenSpec.upto backupCutsSpec)

/-- 'storagebarterlaw35.BackupPuts', WHERE WHAT IT READS IS OF BULK AT MOST 1048576: true; the input reads as it did. -/
def backupPutsUptoRow : OpenClaim := { program := "ytghdinkgfpfdoaagreat", sum := "d20217747798d399dc3c92643dd950a7184e12742557c0a17d5a5b46d30671a5", func := "storagebarter/storagebarterlaw35.BackupPuts", spec := "backupPuts", inPlace := ["internal/abi.NoEscape", "internal/bytealg.MakeNoZero", "slices.overlaps[storagebarter/api.Place]"], unfollowed := true, recurses := true, plainKeys := false, apart := false, narrowed := true }
def BackupPutsUptoSaid : Prop := backupPutsUptoRow.holds Tryz.pinned (OpenSpec.upto backupPutsSpec)

/-- 'storagebarterlaw45.AuditHolds', WHERE WHAT IT READS IS OF BULK AT MOST 1048576: true; the input reads as it did. -/
def auditHoldsUptoRow : OpenClaim := { program := "ytghdinkgfpfdoaagreat", sum := "d20217747798d399dc3c92643dd950a7184e12742557c0a17d5a5b46d30671a5", func := "storagebarter/storagebarterlaw45.AuditHolds", spec := "auditHolds", inPlace := ["internal/abi.NoEscape", "internal/bytealg.MakeNoZero"], unfollowed := true, recurses := true, plainKeys := false, apart := false, narrowed := true }
def AuditHoldsUptoSaid : Prop := auditHoldsUptoRow.holds Tryz.pinned (OpenSpec.upto auditHoldsSpec)

/-- 'storagebarterlaw45.AuditScripts', WHERE WHAT IT READS IS OF BULK AT MOST 1048576: true; the input reads as it did. -/
def auditScriptsUptoRow : OpenClaim := { program := "ytghdinkgfpfdoaagreat", sum := "d20217747798d399dc3c92643dd950a7184e12742557c0a17d5a5b46d30671a5", func := "storagebarter/storagebarterlaw45.AuditScripts", spec := "auditScripts", inPlace := ["internal/abi.NoEscape", "internal/bytealg.MakeNoZero"], unfollowed := true, recurses := true, plainKeys := false, apart := false, narrowed := true }
def AuditScriptsUptoSaid : Prop := auditScriptsUptoRow.holds Tryz.pinned (OpenSpec.upto auditScriptsSpec)

/-- 'storagebarterlaw45.AuditGames', WHERE WHAT IT READS IS OF BULK AT MOST 1048576: true; the input reads as it did. -/
def auditGamesUptoRow : OpenClaim := { program := "ytghdinkgfpfdoaagreat", sum := "d20217747798d399dc3c92643dd950a7184e12742557c0a17d5a5b46d30671a5", func := "storagebarter/storagebarterlaw45.AuditGames", spec := "auditGames", inPlace := ["internal/abi.NoEscape", "internal/bytealg.MakeNoZero"], unfollowed := true, recurses := true, plainKeys := false, apart := false, narrowed := true }
def AuditGamesUptoSaid : Prop := auditGamesUptoRow.holds Tryz.pinned (OpenSpec.upto auditGamesSpec)

end Rows
end Go.Proofs.YtghdinkgfpfdoaaGreat
