/-
  No cell of these rows narrows 'for every input' (looked for: loops, veiled, ifaces, maps, wideKeys, modest, calm, conditions, laid).
  DERIVED. THE GIVEN ROWS OF THIS SEAT. 5 by the template 'for every input the law returns true; each argument reads behind the call as it read before'; 0 by the template 'total and deterministic' (their statements: YtgccjmjengfhbaaTotals.lean).
  GIVEN WITH THE SEED: the statements are not yours to turn. If you find one false, say at which input.
  Laid BY PROGRAM, IN A SANDBOX (cutbox-rows.mjs): the forced cells as the released guide's own fill.sh prints them over the translation a98350e2c8b77228… (all of the seat's roots in one cut). By AI agents, Wed Nov 11 2026. No macro, syntax, notation, axiom, sorry.
-/
import Derived.Test.YtgccjmjengfhbaaChecked
import GoSem.Claim
import GoSem.ClaimJoined
import GoSem.ClaimMapViews
import Derived.JoinedTies
import Derived.KernelRfl
namespace Go.Proofs.Ytgccjmjengfhbaa
/- THE CELL 'sum', in the pinned program and in every row, IS THE sha256 OF THE DUMP (.gsa) THAT YtgccjmjengfhbaaProg.lean LOADS. Nothing in Lean hashes anything: it is a label: what it is worth is what the hold of that sum in a sandbox is worth. -/
noncomputable def Try.pinned : Pinned := { name := "ytgccjmjengfhbaa", sum := "a98350e2c8b7722838a329ee6d112a0a10dabb2cdd9ea4f6bb6f89bc97e91bdd", checked := Try.checked }
namespace Rows
def none {H : Type} : Left H := { results := [], args := [] }

/-- 'linesmanlaw06.MemoryHolds': WHATEVER THE INPUT: true; the input reads as it did. -/
def memoryHoldsSpec : ChangeSpec := { name := "memoryHolds", fn := fun _ => fun
  | [d] => { results := [.lit (.bool true)], args := [d] }
  | _ => none }
def memoryHoldsRow : OpenClaim := { program := "ytgccjmjengfhbaa", sum := "a98350e2c8b7722838a329ee6d112a0a10dabb2cdd9ea4f6bb6f89bc97e91bdd", func := "linesman/linesmanlaw06.MemoryHolds", spec := "memoryHolds", unfollowed := true, recurses := true, apart := false }
def MemoryHoldsSaid : Prop := memoryHoldsRow.holds Try.pinned (OpenSpec.ofChange memoryHoldsSpec)

/-- ITS FALSE NEIGHBOUR: 'it returns false'. Refute it at one input. -/
def memoryHoldsWrong : ChangeSpec := { name := "memoryHolds", fn := fun _ => fun
  | [d] => { results := [.lit (.bool false)], args := [d] }
  | _ => none }
def MemoryHoldsWrongFalsely : Prop := memoryHoldsRow.holds Try.pinned (OpenSpec.ofChange memoryHoldsWrong)

/-- 'linesmanlaw06.MemoryFrom': WHATEVER THE INPUT: true; the input reads as it did. -/
def memoryFromSpec : ChangeSpec := { name := "memoryFrom", fn := fun _ => fun
  | [d1, d2, d3] => { results := [.lit (.bool true)], args := [d1, d2, d3] }
  | _ => none }
def memoryFromRow : OpenClaim := { program := "ytgccjmjengfhbaa", sum := "a98350e2c8b7722838a329ee6d112a0a10dabb2cdd9ea4f6bb6f89bc97e91bdd", func := "linesman/linesmanlaw06.MemoryFrom", spec := "memoryFrom", unfollowed := true, recurses := true, apart := false }
def MemoryFromSaid : Prop := memoryFromRow.holds Try.pinned (OpenSpec.ofChange memoryFromSpec)

/-- ITS FALSE NEIGHBOUR: 'it returns false'. Refute it at one input. -/
def memoryFromWrong : ChangeSpec := { name := "memoryFrom", fn := fun _ => fun
  | [d1, d2, d3] => { results := [.lit (.bool false)], args := [d1, d2, d3] }
  | _ => none }
def MemoryFromWrongFalsely : Prop := memoryFromRow.holds Try.pinned (OpenSpec.ofChange memoryFromWrong)

/-- 'linesmanlaw06.MemoryStores': WHATEVER THE INPUT: true; the input reads as it did. -/
def memoryStoresSpec : ChangeSpec := { name := "memoryStores", fn := fun _ => fun
  | [d] => { results := [.lit (.bool true)], args := [d] }
  | _ => none }
def memoryStoresRow : OpenClaim := { program := "ytgccjmjengfhbaa", sum := "a98350e2c8b7722838a329ee6d112a0a10dabb2cdd9ea4f6bb6f89bc97e91bdd", func := "linesman/linesmanlaw06.MemoryStores", spec := "memoryStores", unfollowed := true, recurses := true, apart := false }
def MemoryStoresSaid : Prop := memoryStoresRow.holds Try.pinned (OpenSpec.ofChange memoryStoresSpec)

/-- ITS FALSE NEIGHBOUR: 'it returns false'. Refute it at one input. -/
def memoryStoresWrong : ChangeSpec := { name := "memoryStores", fn := fun _ => fun
  | [d] => { results := [.lit (.bool false)], args := [d] }
  | _ => none }
def MemoryStoresWrongFalsely : Prop := memoryStoresRow.holds Try.pinned (OpenSpec.ofChange memoryStoresWrong)

/-- 'linesmanlaw06.MemoryCopies': WHATEVER THE INPUT: true; the input reads as it did. -/
def memoryCopiesSpec : ChangeSpec := { name := "memoryCopies", fn := fun _ => fun
  | [d1, d2, d3] => { results := [.lit (.bool true)], args := [d1, d2, d3] }
  | _ => none }
def memoryCopiesRow : OpenClaim := { program := "ytgccjmjengfhbaa", sum := "a98350e2c8b7722838a329ee6d112a0a10dabb2cdd9ea4f6bb6f89bc97e91bdd", func := "linesman/linesmanlaw06.MemoryCopies", spec := "memoryCopies", unfollowed := true, recurses := true, apart := false }
def MemoryCopiesSaid : Prop := memoryCopiesRow.holds Try.pinned (OpenSpec.ofChange memoryCopiesSpec)

/-- ITS FALSE NEIGHBOUR: 'it returns false'. Refute it at one input. -/
def memoryCopiesWrong : ChangeSpec := { name := "memoryCopies", fn := fun _ => fun
  | [d1, d2, d3] => { results := [.lit (.bool false)], args := [d1, d2, d3] }
  | _ => none }
def MemoryCopiesWrongFalsely : Prop := memoryCopiesRow.holds Try.pinned (OpenSpec.ofChange memoryCopiesWrong)

/-- 'linesmanlaw06.MemoryNone': WHATEVER THE INPUT: true; the input reads as it did. -/
def memoryNoneSpec : ChangeSpec := { name := "memoryNone", fn := fun _ => fun
  | [d1, d2] => { results := [.lit (.bool true)], args := [d1, d2] }
  | _ => none }
def memoryNoneRow : OpenClaim := { program := "ytgccjmjengfhbaa", sum := "a98350e2c8b7722838a329ee6d112a0a10dabb2cdd9ea4f6bb6f89bc97e91bdd", func := "linesman/linesmanlaw06.MemoryNone", spec := "memoryNone", unfollowed := true, recurses := true, apart := false }
def MemoryNoneSaid : Prop := memoryNoneRow.holds Try.pinned (OpenSpec.ofChange memoryNoneSpec)

/-- ITS FALSE NEIGHBOUR: 'it returns false'. Refute it at one input. -/
def memoryNoneWrong : ChangeSpec := { name := "memoryNone", fn := fun _ => fun
  | [d1, d2] => { results := [.lit (.bool false)], args := [d1, d2] }
  | _ => none }
def MemoryNoneWrongFalsely : Prop := memoryNoneRow.holds Try.pinned (OpenSpec.ofChange memoryNoneWrong)

/- THE SECOND FORM. 'bulk': how many values and letters a reading holds, each counted each time it is reached (what is shared counts as often as it is met; a slice's spare places count too). A statement '..UptoSaid' is the law's where the arguments, and the package variables that the reading takes, are together of bulk at most 1048576: NARROWER than '..Said'. Prove '..Said' where nothing that the law and all that it calls make is longer than what came in: it says more and counts as full. Else prove '..UptoSaid'. A law counts once. -/
mutual
def uptoBulk {H : Type} : DataW H → Nat
  | .lit (.string bytes) => bytes.length + 1
  | .lit _ => 1
  | .nil => 1
  | .ptr d => uptoBulk d + 1
  | .slice elems spare => uptoBulkAll elems + uptoBulkAll spare + 1
  | .agg parts => uptoBulkAll parts + 1
  | .iface _ d => uptoBulk d + 1
  | .map entries => uptoBulkEntries entries + 1
  | .held _ => 1
def uptoBulkAll {H : Type} : List (DataW H) → Nat
  | [] => 0
  | d :: r => uptoBulk d + uptoBulkAll r
def uptoBulkEntries {H : Type} : List (Lit × DataW H) → Nat
  | [] => 0
  | x :: r => uptoBulkEntry x + uptoBulkEntries r
def uptoBulkEntry {H : Type} : Lit × DataW H → Nat
  | (.string bytes, d) => bytes.length + uptoBulk d + 1
  | (_, d) => uptoBulk d + 1
 end
def uptoSmall : (H : Type) → List (DataW H) → Bool := fun _ ds => decide (uptoBulkAll ds ≤ 1048576)
def OpenSpec.upto (s : _root_.Go.ChangeSpec) : _root_.Go.OpenSpec := { _root_.Go.OpenSpec.ofChange s with cond := some uptoSmall }

/-- 'linesmanlaw06.MemoryHolds', WHERE WHAT IT READS IS OF BULK AT MOST 1048576: true; the input reads as it did. -/
def memoryHoldsUptoRow : OpenClaim := { program := "ytgccjmjengfhbaa", sum := "a98350e2c8b7722838a329ee6d112a0a10dabb2cdd9ea4f6bb6f89bc97e91bdd", func := "linesman/linesmanlaw06.MemoryHolds", spec := "memoryHolds", unfollowed := true, recurses := true, apart := false, narrowed := true }
def MemoryHoldsUptoSaid : Prop := memoryHoldsUptoRow.holds Try.pinned (OpenSpec.upto memoryHoldsSpec)

/-- 'linesmanlaw06.MemoryFrom', WHERE WHAT IT READS IS OF BULK AT MOST 1048576: true; the input reads as it did. -/
def memoryFromUptoRow : OpenClaim := { program := "ytgccjmjengfhbaa", sum := "a98350e2c8b7722838a329ee6d112a0a10dabb2cdd9ea4f6bb6f89bc97e91bdd", func := "linesman/linesmanlaw06.MemoryFrom", spec := "memoryFrom", unfollowed := true, recurses := true, apart := false, narrowed := true }
def MemoryFromUptoSaid : Prop := memoryFromUptoRow.holds Try.pinned (OpenSpec.upto memoryFromSpec)

/-- 'linesmanlaw06.MemoryStores', WHERE WHAT IT READS IS OF BULK AT MOST 1048576: true; the input reads as it did. -/
def memoryStoresUptoRow : OpenClaim := { program := "ytgccjmjengfhbaa", sum := "a98350e2c8b7722838a329ee6d112a0a10dabb2cdd9ea4f6bb6f89bc97e91bdd", func := "linesman/linesmanlaw06.MemoryStores", spec := "memoryStores", unfollowed := true, recurses := true, apart := false, narrowed := true }
def MemoryStoresUptoSaid : Prop := memoryStoresUptoRow.holds Try.pinned (OpenSpec.upto memoryStoresSpec)

/-- 'linesmanlaw06.MemoryCopies', WHERE WHAT IT READS IS OF BULK AT MOST 1048576: true; the input reads as it did. -/
def memoryCopiesUptoRow : OpenClaim := { program := "ytgccjmjengfhbaa", sum := "a98350e2c8b7722838a329ee6d112a0a10dabb2cdd9ea4f6bb6f89bc97e91bdd", func := "linesman/linesmanlaw06.MemoryCopies", spec := "memoryCopies", unfollowed := true, recurses := true, apart := false, narrowed := true }
def MemoryCopiesUptoSaid : Prop := memoryCopiesUptoRow.holds Try.pinned (OpenSpec.upto memoryCopiesSpec)

/-- 'linesmanlaw06.MemoryNone', WHERE WHAT IT READS IS OF BULK AT MOST 1048576: true; the input reads as it did. -/
def memoryNoneUptoRow : OpenClaim := { program := "ytgccjmjengfhbaa", sum := "a98350e2c8b7722838a329ee6d112a0a10dabb2cdd9ea4f6bb6f89bc97e91bdd", func := "linesman/linesmanlaw06.MemoryNone", spec := "memoryNone", unfollowed := true, recurses := true, apart := false, narrowed := true }
def MemoryNoneUptoSaid : Prop := memoryNoneUptoRow.holds Try.pinned (OpenSpec.upto memoryNoneSpec)

end Rows
end Go.Proofs.Ytgccjmjengfhbaa
