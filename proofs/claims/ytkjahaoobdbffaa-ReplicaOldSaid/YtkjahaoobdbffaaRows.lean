/-
  No cell of these rows narrows 'for every input' (looked for: loops, veiled, ifaces, maps, wideKeys, modest, calm, conditions, laid).
  DERIVED. THE GIVEN ROWS OF THIS SEAT. 10 by the template 'for every input the law returns true; each argument reads behind the call as it read before'; 0 by the template 'total and deterministic' (their statements: YtkjahaoobdbffaaTotals.lean).
  GIVEN WITH THE SEED: the statements are not yours to turn. If you find one false, say at which input.
  Laid BY PROGRAM, IN A SANDBOX (cutbox-rows.mjs): the forced cells as the released guide's own fill.sh prints them over the translation 3248aafcb90591b6… (all of the seat's roots in one cut). By AI agents, Wed Nov 11 2026. No macro, syntax, notation, axiom, sorry.
-/
import Derived.Test.YtkjahaoobdbffaaChecked
import GoSem.Claim
import GoSem.ClaimJoined
import GoSem.ClaimMapViews
import Derived.JoinedTies
import Derived.KernelRfl
namespace Go.Proofs.Ytkjahaoobdbffaa
/- THE CELL 'sum', in the pinned program and in every row, IS THE sha256 OF THE DUMP (.gsa) THAT YtkjahaoobdbffaaProg.lean LOADS. Nothing in Lean hashes anything: it is a label: what it is worth is what the hold of that sum in a sandbox is worth. -/
noncomputable def Try.pinned : Pinned := { name := "ytkjahaoobdbffaa", sum := "3248aafcb90591b687cd2fe37e6dc5bca03bc9430b08035397ff36d9a987f4bc", checked := Try.checked }
namespace Rows
def none {H : Type} : Left H := { results := [], args := [] }

/-- 'colanderlaw11.PackSame': WHATEVER THE INPUT: true; the input reads as it did. -/
def packSameSpec : ChangeSpec := { name := "packSame", fn := fun _ => fun
  | [d1, d2] => { results := [.lit (.bool true)], args := [d1, d2] }
  | _ => none }
def packSameRow : OpenClaim := { program := "ytkjahaoobdbffaa", sum := "3248aafcb90591b687cd2fe37e6dc5bca03bc9430b08035397ff36d9a987f4bc", func := "colander/colanderlaw11.PackSame", spec := "packSame", unfollowed := true, recurses := true, apart := false }
def PackSameSaid : Prop := packSameRow.holds Try.pinned (OpenSpec.ofChange packSameSpec)

/-- ITS FALSE NEIGHBOUR: 'it returns false'. Refute it at one input. -/
def packSameWrong : ChangeSpec := { name := "packSame", fn := fun _ => fun
  | [d1, d2] => { results := [.lit (.bool false)], args := [d1, d2] }
  | _ => none }
def PackSameWrongFalsely : Prop := packSameRow.holds Try.pinned (OpenSpec.ofChange packSameWrong)

/-- 'colanderlaw15.ReplicaOld': WHATEVER THE INPUT: true; the input reads as it did. -/
def replicaOldSpec : ChangeSpec := { name := "replicaOld", fn := fun _ => fun
  | [d1, d2, d3] => { results := [.lit (.bool true)], args := [d1, d2, d3] }
  | _ => none }
def replicaOldRow : OpenClaim := { program := "ytkjahaoobdbffaa", sum := "3248aafcb90591b687cd2fe37e6dc5bca03bc9430b08035397ff36d9a987f4bc", func := "colander/colanderlaw15.ReplicaOld", spec := "replicaOld", unfollowed := true, recurses := true, apart := false }
def ReplicaOldSaid : Prop := replicaOldRow.holds Try.pinned (OpenSpec.ofChange replicaOldSpec)

/-- ITS FALSE NEIGHBOUR: 'it returns false'. Refute it at one input. -/
def replicaOldWrong : ChangeSpec := { name := "replicaOld", fn := fun _ => fun
  | [d1, d2, d3] => { results := [.lit (.bool false)], args := [d1, d2, d3] }
  | _ => none }
def ReplicaOldWrongFalsely : Prop := replicaOldRow.holds Try.pinned (OpenSpec.ofChange replicaOldWrong)

/-- 'colanderlaw15.ReplicaPlays': WHATEVER THE INPUT: true; the input reads as it did. -/
def replicaPlaysSpec : ChangeSpec := { name := "replicaPlays", fn := fun _ => fun
  | [d1, d2, d3] => { results := [.lit (.bool true)], args := [d1, d2, d3] }
  | _ => none }
def replicaPlaysRow : OpenClaim := { program := "ytkjahaoobdbffaa", sum := "3248aafcb90591b687cd2fe37e6dc5bca03bc9430b08035397ff36d9a987f4bc", func := "colander/colanderlaw15.ReplicaPlays", spec := "replicaPlays", unfollowed := true, recurses := true, apart := false }
def ReplicaPlaysSaid : Prop := replicaPlaysRow.holds Try.pinned (OpenSpec.ofChange replicaPlaysSpec)

/-- ITS FALSE NEIGHBOUR: 'it returns false'. Refute it at one input. -/
def replicaPlaysWrong : ChangeSpec := { name := "replicaPlays", fn := fun _ => fun
  | [d1, d2, d3] => { results := [.lit (.bool false)], args := [d1, d2, d3] }
  | _ => none }
def ReplicaPlaysWrongFalsely : Prop := replicaPlaysRow.holds Try.pinned (OpenSpec.ofChange replicaPlaysWrong)

/-- 'colanderlaw15.ReplicaSays': WHATEVER THE INPUT: true; the input reads as it did. -/
def replicaSaysSpec : ChangeSpec := { name := "replicaSays", fn := fun _ => fun
  | [d1, d2, d3] => { results := [.lit (.bool true)], args := [d1, d2, d3] }
  | _ => none }
def replicaSaysRow : OpenClaim := { program := "ytkjahaoobdbffaa", sum := "3248aafcb90591b687cd2fe37e6dc5bca03bc9430b08035397ff36d9a987f4bc", func := "colander/colanderlaw15.ReplicaSays", spec := "replicaSays", unfollowed := true, recurses := true, apart := false }
def ReplicaSaysSaid : Prop := replicaSaysRow.holds Try.pinned (OpenSpec.ofChange replicaSaysSpec)

/-- ITS FALSE NEIGHBOUR: 'it returns false'. Refute it at one input. -/
def replicaSaysWrong : ChangeSpec := { name := "replicaSays", fn := fun _ => fun
  | [d1, d2, d3] => { results := [.lit (.bool false)], args := [d1, d2, d3] }
  | _ => none }
def ReplicaSaysWrongFalsely : Prop := replicaSaysRow.holds Try.pinned (OpenSpec.ofChange replicaSaysWrong)

/-- 'colanderlaw15.ReplicaAgree': WHATEVER THE INPUT: true; the input reads as it did. -/
def replicaAgreeSpec : ChangeSpec := { name := "replicaAgree", fn := fun _ => fun
  | [d1, d2] => { results := [.lit (.bool true)], args := [d1, d2] }
  | _ => none }
def replicaAgreeRow : OpenClaim := { program := "ytkjahaoobdbffaa", sum := "3248aafcb90591b687cd2fe37e6dc5bca03bc9430b08035397ff36d9a987f4bc", func := "colander/colanderlaw15.ReplicaAgree", spec := "replicaAgree", unfollowed := true, recurses := true, apart := false }
def ReplicaAgreeSaid : Prop := replicaAgreeRow.holds Try.pinned (OpenSpec.ofChange replicaAgreeSpec)

/-- ITS FALSE NEIGHBOUR: 'it returns false'. Refute it at one input. -/
def replicaAgreeWrong : ChangeSpec := { name := "replicaAgree", fn := fun _ => fun
  | [d1, d2] => { results := [.lit (.bool false)], args := [d1, d2] }
  | _ => none }
def ReplicaAgreeWrongFalsely : Prop := replicaAgreeRow.holds Try.pinned (OpenSpec.ofChange replicaAgreeWrong)

/-- 'colanderlaw15.ReplicaOnce': WHATEVER THE INPUT: true; the input reads as it did. -/
def replicaOnceSpec : ChangeSpec := { name := "replicaOnce", fn := fun _ => fun
  | [d1, d2] => { results := [.lit (.bool true)], args := [d1, d2] }
  | _ => none }
def replicaOnceRow : OpenClaim := { program := "ytkjahaoobdbffaa", sum := "3248aafcb90591b687cd2fe37e6dc5bca03bc9430b08035397ff36d9a987f4bc", func := "colander/colanderlaw15.ReplicaOnce", spec := "replicaOnce", unfollowed := true, recurses := true, apart := false }
def ReplicaOnceSaid : Prop := replicaOnceRow.holds Try.pinned (OpenSpec.ofChange replicaOnceSpec)

/-- ITS FALSE NEIGHBOUR: 'it returns false'. Refute it at one input. -/
def replicaOnceWrong : ChangeSpec := { name := "replicaOnce", fn := fun _ => fun
  | [d1, d2] => { results := [.lit (.bool false)], args := [d1, d2] }
  | _ => none }
def ReplicaOnceWrongFalsely : Prop := replicaOnceRow.holds Try.pinned (OpenSpec.ofChange replicaOnceWrong)

/-- 'colanderlaw15.ReplicaCalm': WHATEVER THE INPUT: true; the input reads as it did. -/
def replicaCalmSpec : ChangeSpec := { name := "replicaCalm", fn := fun _ => fun
  | [d1, d2] => { results := [.lit (.bool true)], args := [d1, d2] }
  | _ => none }
def replicaCalmRow : OpenClaim := { program := "ytkjahaoobdbffaa", sum := "3248aafcb90591b687cd2fe37e6dc5bca03bc9430b08035397ff36d9a987f4bc", func := "colander/colanderlaw15.ReplicaCalm", spec := "replicaCalm", unfollowed := true, recurses := true, apart := false }
def ReplicaCalmSaid : Prop := replicaCalmRow.holds Try.pinned (OpenSpec.ofChange replicaCalmSpec)

/-- ITS FALSE NEIGHBOUR: 'it returns false'. Refute it at one input. -/
def replicaCalmWrong : ChangeSpec := { name := "replicaCalm", fn := fun _ => fun
  | [d1, d2] => { results := [.lit (.bool false)], args := [d1, d2] }
  | _ => none }
def ReplicaCalmWrongFalsely : Prop := replicaCalmRow.holds Try.pinned (OpenSpec.ofChange replicaCalmWrong)

/-- 'colanderlaw15.ReplicaTwice': WHATEVER THE INPUT: true; the input reads as it did. -/
def replicaTwiceSpec : ChangeSpec := { name := "replicaTwice", fn := fun _ => fun
  | [d1, d2, d3, d4] => { results := [.lit (.bool true)], args := [d1, d2, d3, d4] }
  | _ => none }
def replicaTwiceRow : OpenClaim := { program := "ytkjahaoobdbffaa", sum := "3248aafcb90591b687cd2fe37e6dc5bca03bc9430b08035397ff36d9a987f4bc", func := "colander/colanderlaw15.ReplicaTwice", spec := "replicaTwice", unfollowed := true, recurses := true, apart := false }
def ReplicaTwiceSaid : Prop := replicaTwiceRow.holds Try.pinned (OpenSpec.ofChange replicaTwiceSpec)

/-- ITS FALSE NEIGHBOUR: 'it returns false'. Refute it at one input. -/
def replicaTwiceWrong : ChangeSpec := { name := "replicaTwice", fn := fun _ => fun
  | [d1, d2, d3, d4] => { results := [.lit (.bool false)], args := [d1, d2, d3, d4] }
  | _ => none }
def ReplicaTwiceWrongFalsely : Prop := replicaTwiceRow.holds Try.pinned (OpenSpec.ofChange replicaTwiceWrong)

/-- 'colanderlaw13.LedgerAgain': WHATEVER THE INPUT: true; the input reads as it did. -/
def ledgerAgainSpec : ChangeSpec := { name := "ledgerAgain", fn := fun _ => fun
  | [d1, d2] => { results := [.lit (.bool true)], args := [d1, d2] }
  | _ => none }
def ledgerAgainRow : OpenClaim := { program := "ytkjahaoobdbffaa", sum := "3248aafcb90591b687cd2fe37e6dc5bca03bc9430b08035397ff36d9a987f4bc", func := "colander/colanderlaw13.LedgerAgain", spec := "ledgerAgain", unfollowed := true, recurses := true, apart := false }
def LedgerAgainSaid : Prop := ledgerAgainRow.holds Try.pinned (OpenSpec.ofChange ledgerAgainSpec)

/-- ITS FALSE NEIGHBOUR: 'it returns false'. Refute it at one input. -/
def ledgerAgainWrong : ChangeSpec := { name := "ledgerAgain", fn := fun _ => fun
  | [d1, d2] => { results := [.lit (.bool false)], args := [d1, d2] }
  | _ => none }
def LedgerAgainWrongFalsely : Prop := ledgerAgainRow.holds Try.pinned (OpenSpec.ofChange ledgerAgainWrong)

/-- 'colanderlaw13.LedgerSteps': WHATEVER THE INPUT: true; the input reads as it did. -/
def ledgerStepsSpec : ChangeSpec := { name := "ledgerSteps", fn := fun _ => fun
  | [d1, d2] => { results := [.lit (.bool true)], args := [d1, d2] }
  | _ => none }
def ledgerStepsRow : OpenClaim := { program := "ytkjahaoobdbffaa", sum := "3248aafcb90591b687cd2fe37e6dc5bca03bc9430b08035397ff36d9a987f4bc", func := "colander/colanderlaw13.LedgerSteps", spec := "ledgerSteps", unfollowed := true, recurses := true, apart := false }
def LedgerStepsSaid : Prop := ledgerStepsRow.holds Try.pinned (OpenSpec.ofChange ledgerStepsSpec)

/-- ITS FALSE NEIGHBOUR: 'it returns false'. Refute it at one input. -/
def ledgerStepsWrong : ChangeSpec := { name := "ledgerSteps", fn := fun _ => fun
  | [d1, d2] => { results := [.lit (.bool false)], args := [d1, d2] }
  | _ => none }
def LedgerStepsWrongFalsely : Prop := ledgerStepsRow.holds Try.pinned (OpenSpec.ofChange ledgerStepsWrong)

/- THE SECOND FORM. 'bulk': how many values and letters a reading holds, each counted each time it is reached (what is shared counts as often as it is met; a slice's spare places count too). A statement '..UptoSaid' is the law's where the arguments, and the package variables that the reading takes, are together of bulk at most 1048576: NARROWER than '..Said'. Prove '..Said' where nothing that the law and all that it calls make is longer than what came in: it says more and counts as full. Else prove '..UptoSaid'. A law counts once. -/
mutual
def uptoBulk {H : Type} : DataW H → Nat
  | .lit (.string bytes) => bytes.length + 1
  | .lit _ => 1
  | .nil => 1
  | .ptr d => uptoBulk d + 1
  | .slice elems spare => uptoBulkAll elems + uptoBulkAll spare + 1
  | .agg parts => uptoBulkAll parts + 1
  | .iface _ d => uptoBulk d + 1
  | .map entries => uptoBulkEntries entries + 1
  | .held _ => 1
def uptoBulkAll {H : Type} : List (DataW H) → Nat
  | [] => 0
  | d :: r => uptoBulk d + uptoBulkAll r
def uptoBulkEntries {H : Type} : List (Lit × DataW H) → Nat
  | [] => 0
  | x :: r => uptoBulkEntry x + uptoBulkEntries r
def uptoBulkEntry {H : Type} : Lit × DataW H → Nat
  | (.string bytes, d) => bytes.length + uptoBulk d + 1
  | (_, d) => uptoBulk d + 1
 end
def uptoSmall : (H : Type) → List (DataW H) → Bool := fun _ ds => decide (uptoBulkAll ds ≤ 1048576)
def OpenSpec.upto (s : _root_.Go.ChangeSpec) : _root_.Go.OpenSpec := { _root_.Go.OpenSpec.ofChange s with cond := some uptoSmall }

/-- 'colanderlaw11.PackSame', WHERE WHAT IT READS IS OF BULK AT MOST 1048576: true; the input reads as it did. -/
def packSameUptoRow : OpenClaim := { program := "ytkjahaoobdbffaa", sum := "3248aafcb90591b687cd2fe37e6dc5bca03bc9430b08035397ff36d9a987f4bc", func := "colander/colanderlaw11.PackSame", spec := "packSame", unfollowed := true, recurses := true, apart := false, narrowed := true }
def PackSameUptoSaid : Prop := packSameUptoRow.holds Try.pinned (OpenSpec.upto packSameSpec)

/-- 'colanderlaw15.ReplicaOld', WHERE WHAT IT READS IS OF BULK AT MOST 1048576: true; the input reads as it did. -/
def replicaOldUptoRow : OpenClaim := { program := "ytkjahaoobdbffaa", sum := "3248aafcb90591b687cd2fe37e6dc5bca03bc9430b08035397ff36d9a987f4bc", func := "colander/colanderlaw15.ReplicaOld", spec := "replicaOld", unfollowed := true, recurses := true, apart := false, narrowed := true }
def ReplicaOldUptoSaid : Prop := replicaOldUptoRow.holds Try.pinned (OpenSpec.upto replicaOldSpec)

/-- 'colanderlaw15.ReplicaPlays', WHERE WHAT IT READS IS OF BULK AT MOST 1048576: true; the input reads as it did. -/
def replicaPlaysUptoRow : OpenClaim := { program := "ytkjahaoobdbffaa", sum := "3248aafcb90591b687cd2fe37e6dc5bca03bc9430b08035397ff36d9a987f4bc", func := "colander/colanderlaw15.ReplicaPlays", spec := "replicaPlays", unfollowed := true, recurses := true, apart := false, narrowed := true }
def ReplicaPlaysUptoSaid : Prop := replicaPlaysUptoRow.holds Try.pinned (OpenSpec.upto replicaPlaysSpec)

/-- 'colanderlaw15.ReplicaSays', WHERE WHAT IT READS IS OF BULK AT MOST 1048576: true; the input reads as it did. -/
def replicaSaysUptoRow : OpenClaim := { program := "ytkjahaoobdbffaa", sum := "3248aafcb90591b687cd2fe37e6dc5bca03bc9430b08035397ff36d9a987f4bc", func := "colander/colanderlaw15.ReplicaSays", spec := "replicaSays", unfollowed := true, recurses := true, apart := false, narrowed := true }
def ReplicaSaysUptoSaid : Prop := replicaSaysUptoRow.holds Try.pinned (OpenSpec.upto replicaSaysSpec)

/-- 'colanderlaw15.ReplicaAgree', WHERE WHAT IT READS IS OF BULK AT MOST 1048576: true; the input reads as it did. -/
def replicaAgreeUptoRow : OpenClaim := { program := "ytkjahaoobdbffaa", sum := "3248aafcb90591b687cd2fe37e6dc5bca03bc9430b08035397ff36d9a987f4bc", func := "colander/colanderlaw15.ReplicaAgree", spec := "replicaAgree", unfollowed := true, recurses := true, apart := false, narrowed := true }
def ReplicaAgreeUptoSaid : Prop := replicaAgreeUptoRow.holds Try.pinned (OpenSpec.upto replicaAgreeSpec)

/-- 'colanderlaw15.ReplicaOnce', WHERE WHAT IT READS IS OF BULK AT MOST 1048576: true; the input reads as it did. -/
def replicaOnceUptoRow : OpenClaim := { program := "ytkjahaoobdbffaa", sum := "3248aafcb90591b687cd2fe37e6dc5bca03bc9430b08035397ff36d9a987f4bc", func := "colander/colanderlaw15.ReplicaOnce", spec := "replicaOnce", unfollowed := true, recurses := true, apart := false, narrowed := true }
def ReplicaOnceUptoSaid : Prop := replicaOnceUptoRow.holds Try.pinned (OpenSpec.upto replicaOnceSpec)

/-- 'colanderlaw15.ReplicaCalm', WHERE WHAT IT READS IS OF BULK AT MOST 1048576: true; the input reads as it did. -/
def replicaCalmUptoRow : OpenClaim := { program := "ytkjahaoobdbffaa", sum := "3248aafcb90591b687cd2fe37e6dc5bca03bc9430b08035397ff36d9a987f4bc", func := "colander/colanderlaw15.ReplicaCalm", spec := "replicaCalm", unfollowed := true, recurses := true, apart := false, narrowed := true }
def ReplicaCalmUptoSaid : Prop := replicaCalmUptoRow.holds Try.pinned (OpenSpec.upto replicaCalmSpec)

/-- 'colanderlaw15.ReplicaTwice', WHERE WHAT IT READS IS OF BULK AT MOST 1048576: true; the input reads as it did. -/
def replicaTwiceUptoRow : OpenClaim := { program := "ytkjahaoobdbffaa", sum := "3248aafcb90591b687cd2fe37e6dc5bca03bc9430b08035397ff36d9a987f4bc", func := "colander/colanderlaw15.ReplicaTwice", spec := "replicaTwice", unfollowed := true, recurses := true, apart := false, narrowed := true }
def ReplicaTwiceUptoSaid : Prop := replicaTwiceUptoRow.holds Try.pinned (OpenSpec.upto replicaTwiceSpec)

/-- 'colanderlaw13.LedgerAgain', WHERE WHAT IT READS IS OF BULK AT MOST 1048576: true; the input reads as it did. -/
def ledgerAgainUptoRow : OpenClaim := { program := "ytkjahaoobdbffaa", sum := "3248aafcb90591b687cd2fe37e6dc5bca03bc9430b08035397ff36d9a987f4bc", func := "colander/colanderlaw13.LedgerAgain", spec := "ledgerAgain", unfollowed := true, recurses := true, apart := false, narrowed := true }
def LedgerAgainUptoSaid : Prop := ledgerAgainUptoRow.holds Try.pinned (OpenSpec.upto ledgerAgainSpec)

/-- 'colanderlaw13.LedgerSteps', WHERE WHAT IT READS IS OF BULK AT MOST 1048576: true; the input reads as it did. -/
def ledgerStepsUptoRow : OpenClaim := { program := "ytkjahaoobdbffaa", sum := "3248aafcb90591b687cd2fe37e6dc5bca03bc9430b08035397ff36d9a987f4bc", func := "colander/colanderlaw13.LedgerSteps", spec := "ledgerSteps", unfollowed := true, recurses := true, apart := false, narrowed := true }
def LedgerStepsUptoSaid : Prop := ledgerStepsUptoRow.holds Try.pinned (OpenSpec.upto ledgerStepsSpec)

end Rows
end Go.Proofs.Ytkjahaoobdbffaa
