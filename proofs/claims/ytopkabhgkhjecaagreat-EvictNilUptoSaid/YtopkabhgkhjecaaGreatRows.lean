/-
  No cell of these rows narrows 'for every input' (looked for: loops, veiled, ifaces, maps, wideKeys, modest, calm, conditions, laid).
  DERIVED. THE GIVEN ROWS OF THIS SEAT. 5 by the template 'for every input the law returns true; each argument reads behind the call as it read before'; 0 by the template 'total and deterministic' (their statements: YtopkabhgkhjecaaGreatTotals.lean).
  GIVEN WITH THE SEED: the statements are not yours to turn. If you find one false, say at which input.
  Laid BY PROGRAM, IN A SANDBOX (cutbox-rows.mjs): the forced cells as the released guide's own fill.sh prints them over the translation 35d0be3cb8c64da2… (all of the seat's roots in one cut). By AI agents, Wed Nov 11 2026. No macro, syntax, notation, axiom, sorry.
-/
import Derived.Test.YtopkabhgkhjecaaGreatChecked
import GoSem.Claim
import GoSem.ClaimJoined
import GoSem.ClaimMapViews
import Derived.JoinedTies
import Derived.KernelRfl
namespace Go.Proofs.YtopkabhgkhjecaaGreat
/- THE CELL 'sum', in the pinned program and in every row, IS THE sha256 OF THE DUMP (.gsa) THAT YtopkabhgkhjecaaGreatProg.lean LOADS. Nothing in Lean hashes anything: it is a label: what it is worth is what the hold of that sum in a sandbox is worth. -/
noncomputable def Tryz.pinned : Pinned := { name := "ytopkabhgkhjecaagreat", sum := "35d0be3cb8c64da29df22ec0e708c2179299227c948540ce372a70acd71a4e00", checked := Tryz.checked }
namespace Rows
def none {H : Type} : Left H := { results := [], args := [] }

/-- 'pantrylaw15.EvictNil': WHATEVER THE INPUT: true; the input reads as it did. -/
def evictNilSpec : ChangeSpec := { name := "evictNil", fn := fun _ => fun
  | [d1, d2, d3] => { results := [.lit (.bool true)], args := [d1, d2, d3] }
  | _ => none }
def evictNilRow : OpenClaim := { program := "ytopkabhgkhjecaagreat", sum := "35d0be3cb8c64da29df22ec0e708c2179299227c948540ce372a70acd71a4e00", func := "pantry/pantrylaw15.EvictNil", spec := "evictNil", unfollowed := true, recurses := true, apart := false }
def EvictNilSaid : Prop := evictNilRow.holds Tryz.pinned (OpenSpec.ofChange evictNilSpec)

/-- ITS FALSE NEIGHBOUR: 'it returns false'. Refute it at one input. -/
def evictNilWrong : ChangeSpec := { name := "evictNil", fn := fun _ => fun
  | [d1, d2, d3] => { results := [.lit (.bool false)], args := [d1, d2, d3] }
  | _ => none }
def EvictNilWrongFalsely : Prop := evictNilRow.holds Tryz.pinned (OpenSpec.ofChange evictNilWrong)

/-- 'pantrylaw15.EvictSoonest': WHATEVER THE INPUT: true; the input reads as it did. -/
def evictSoonestSpec : ChangeSpec := { name := "evictSoonest", fn := fun _ => fun
  | [d1, d2, d3, d4] => { results := [.lit (.bool true)], args := [d1, d2, d3, d4] }
  | _ => none }
def evictSoonestRow : OpenClaim := { program := "ytopkabhgkhjecaagreat", sum := "35d0be3cb8c64da29df22ec0e708c2179299227c948540ce372a70acd71a4e00", func := "pantry/pantrylaw15.EvictSoonest", spec := "evictSoonest", unfollowed := true, recurses := true, apart := false }
def EvictSoonestSaid : Prop := evictSoonestRow.holds Tryz.pinned (OpenSpec.ofChange evictSoonestSpec)

/-- ITS FALSE NEIGHBOUR: 'it returns false'. Refute it at one input. -/
def evictSoonestWrong : ChangeSpec := { name := "evictSoonest", fn := fun _ => fun
  | [d1, d2, d3, d4] => { results := [.lit (.bool false)], args := [d1, d2, d3, d4] }
  | _ => none }
def EvictSoonestWrongFalsely : Prop := evictSoonestRow.holds Tryz.pinned (OpenSpec.ofChange evictSoonestWrong)

/-- 'pantrylaw15.EvictDraws': WHATEVER THE INPUT: true; the input reads as it did. -/
def evictDrawsSpec : ChangeSpec := { name := "evictDraws", fn := fun _ => fun
  | [d1, d2, d3, d4] => { results := [.lit (.bool true)], args := [d1, d2, d3, d4] }
  | _ => none }
def evictDrawsRow : OpenClaim := { program := "ytopkabhgkhjecaagreat", sum := "35d0be3cb8c64da29df22ec0e708c2179299227c948540ce372a70acd71a4e00", func := "pantry/pantrylaw15.EvictDraws", spec := "evictDraws", unfollowed := true, recurses := true, apart := false }
def EvictDrawsSaid : Prop := evictDrawsRow.holds Tryz.pinned (OpenSpec.ofChange evictDrawsSpec)

/-- ITS FALSE NEIGHBOUR: 'it returns false'. Refute it at one input. -/
def evictDrawsWrong : ChangeSpec := { name := "evictDraws", fn := fun _ => fun
  | [d1, d2, d3, d4] => { results := [.lit (.bool false)], args := [d1, d2, d3, d4] }
  | _ => none }
def EvictDrawsWrongFalsely : Prop := evictDrawsRow.holds Tryz.pinned (OpenSpec.ofChange evictDrawsWrong)

/-- 'pantrylaw15.EvictRoom': WHATEVER THE INPUT: true; the input reads as it did. -/
def evictRoomSpec : ChangeSpec := { name := "evictRoom", fn := fun _ => fun
  | [d1, d2, d3, d4] => { results := [.lit (.bool true)], args := [d1, d2, d3, d4] }
  | _ => none }
def evictRoomRow : OpenClaim := { program := "ytopkabhgkhjecaagreat", sum := "35d0be3cb8c64da29df22ec0e708c2179299227c948540ce372a70acd71a4e00", func := "pantry/pantrylaw15.EvictRoom", spec := "evictRoom", unfollowed := true, recurses := true, apart := false }
def EvictRoomSaid : Prop := evictRoomRow.holds Tryz.pinned (OpenSpec.ofChange evictRoomSpec)

/-- ITS FALSE NEIGHBOUR: 'it returns false'. Refute it at one input. -/
def evictRoomWrong : ChangeSpec := { name := "evictRoom", fn := fun _ => fun
  | [d1, d2, d3, d4] => { results := [.lit (.bool false)], args := [d1, d2, d3, d4] }
  | _ => none }
def EvictRoomWrongFalsely : Prop := evictRoomRow.holds Tryz.pinned (OpenSpec.ofChange evictRoomWrong)

/-- 'pantrylaw15.EvictPlays': WHATEVER THE INPUT: true; the input reads as it did. -/
def evictPlaysSpec : ChangeSpec := { name := "evictPlays", fn := fun _ => fun
  | [d1, d2, d3, d4] => { results := [.lit (.bool true)], args := [d1, d2, d3, d4] }
  | _ => none }
def evictPlaysRow : OpenClaim := { program := "ytopkabhgkhjecaagreat", sum := "35d0be3cb8c64da29df22ec0e708c2179299227c948540ce372a70acd71a4e00", func := "pantry/pantrylaw15.EvictPlays", spec := "evictPlays", unfollowed := true, recurses := true, apart := false }
def EvictPlaysSaid : Prop := evictPlaysRow.holds Tryz.pinned (OpenSpec.ofChange evictPlaysSpec)

/-- ITS FALSE NEIGHBOUR: 'it returns false'. Refute it at one input. -/
def evictPlaysWrong : ChangeSpec := { name := "evictPlays", fn := fun _ => fun
  | [d1, d2, d3, d4] => { results := [.lit (.bool false)], args := [d1, d2, d3, d4] }
  | _ => none }
def EvictPlaysWrongFalsely : Prop := evictPlaysRow.holds Tryz.pinned (OpenSpec.ofChange evictPlaysWrong)

/- THE SECOND FORM. 'bulk': how many values and letters a reading holds, each counted each time it is reached (what is shared counts as often as it is met; a slice's spare places count too). A statement '..UptoSaid' is the law's where the arguments, and the package variables that the reading takes, are together of bulk at most 1048576: NARROWER than '..Said'. Prove '..Said' where nothing that the law and all that it calls make is longer than what came in: it says more and counts as full. Else prove '..UptoSaid'. A law counts once. -/
mutual
def uptoBulk {H : Type} : DataW H → Nat
  | .lit (.string bytes) => bytes.length + 1
  | .lit _ => 1
  | .nil => 1
  | .ptr d => uptoBulk d + 1
  | .slice elems spare => uptoBulkAll elems + uptoBulkAll spare + 1
  | .agg parts => uptoBulkAll parts + 1
  | .iface _ d => uptoBulk d + 1
  | .map entries => uptoBulkEntries entries + 1
  | .held _ => 1
def uptoBulkAll {H : Type} : List (DataW H) → Nat
  | [] => 0
  | d :: r => uptoBulk d + uptoBulkAll r
def uptoBulkEntries {H : Type} : List (Lit × DataW H) → Nat
  | [] => 0
  | x :: r => uptoBulkEntry x + uptoBulkEntries r
def uptoBulkEntry {H : Type} : Lit × DataW H → Nat
  | (.string bytes, d) => bytes.length + uptoBulk d + 1
  | (_, d) => uptoBulk d + 1
 end
def uptoSmall : (H : Type) → List (DataW H) → Bool := fun _ ds => decide (uptoBulkAll ds ≤ 1048576)
def OpenSpec.upto (s : _root_.Go.ChangeSpec) : _root_.Go.OpenSpec := { _root_.Go.OpenSpec.ofChange s with cond := some uptoSmall }

/-- 'pantrylaw15.EvictNil', WHERE WHAT IT READS IS OF BULK AT MOST 1048576: true; the input reads as it did. -/
def evictNilUptoRow : OpenClaim := { program := "ytopkabhgkhjecaagreat", sum := "35d0be3cb8c64da29df22ec0e708c2179299227c948540ce372a70acd71a4e00", func := "pantry/pantrylaw15.EvictNil", spec := "evictNil", unfollowed := true, recurses := true, apart := false, narrowed := true }
def EvictNilUptoSaid : Prop := evictNilUptoRow.holds Tryz.pinned (OpenSpec.upto evictNilSpec)

/-- 'pantrylaw15.EvictSoonest', WHERE WHAT IT READS IS OF BULK AT MOST 1048576: true; the input reads as it did. -/
def evictSoonestUptoRow : OpenClaim := { program := "ytopkabhgkhjecaagreat", sum := "35d0be3cb8c64da29df22ec0e708c2179299227c948540ce372a70acd71a4e00", func := "pantry/pantrylaw15.EvictSoonest", spec := "evictSoonest", unfollowed := true, recurses := true, apart := false, narrowed := true }
def EvictSoonestUptoSaid : Prop := evictSoonestUptoRow.holds Tryz.pinned (OpenSpec.upto evictSoonestSpec)

/-- 'pantrylaw15.EvictDraws', WHERE WHAT IT READS IS OF BULK AT MOST 1048576: true; the input reads as it did. -/
def evictDrawsUptoRow : OpenClaim := { program := "ytopkabhgkhjecaagreat", sum := "35d0be3cb8c64da29df22ec0e708c2179299227c948540ce372a70acd71a4e00", func := "pantry/pantrylaw15.EvictDraws", spec := "evictDraws", unfollowed := true, recurses := true, apart := false, narrowed := true }
def EvictDrawsUptoSaid : Prop := evictDrawsUptoRow.holds Tryz.pinned (OpenSpec.upto evictDrawsSpec)

/-- 'pantrylaw15.EvictRoom', WHERE WHAT IT READS IS OF BULK AT MOST 1048576: true; the input reads as it did. -/
def evictRoomUptoRow : OpenClaim := { program := "ytopkabhgkhjecaagreat", sum := "35d0be3cb8c64da29df22ec0e708c2179299227c948540ce372a70acd71a4e00", func := "pantry/pantrylaw15.EvictRoom", spec := "evictRoom", unfollowed := true, recurses := true, apart := false, narrowed := true }
def EvictRoomUptoSaid : Prop := evictRoomUptoRow.holds Tryz.pinned (OpenSpec.upto evictRoomSpec)

/-- 'pantrylaw15.EvictPlays', WHERE WHAT IT READS IS OF BULK AT MOST 1048576: true; the input reads as it did. -/
def evictPlaysUptoRow : OpenClaim := { program := "ytopkabhgkhjecaagreat", sum := "35d0be3cb8c64da29df22ec0e708c2179299227c948540ce372a70acd71a4e00", func := "pantry/pantrylaw15.EvictPlays", spec := "evictPlays", unfollowed := true, recurses := true, apart := false, narrowed := true }
def EvictPlaysUptoSaid : Prop := evictPlaysUptoRow.holds Tryz.pinned (OpenSpec.upto evictPlaysSpec)

end Rows
end Go.Proofs.YtopkabhgkhjecaaGreat
