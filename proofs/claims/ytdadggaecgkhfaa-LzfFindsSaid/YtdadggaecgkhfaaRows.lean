/-
  No cell of these rows narrows 'for every input' (looked for: loops, veiled, ifaces, maps, wideKeys, modest, calm, conditions, laid).
  DERIVED. THE GIVEN ROWS OF THIS SEAT. 10 by the template 'for every input the law returns true; each argument reads behind the call as it read before'; 0 by the template 'total and deterministic' (their statements: YtdadggaecgkhfaaTotals.lean).
  GIVEN WITH THE SEED: the statements are not yours to turn. If you find one false, say at which input.
  Laid BY PROGRAM, IN A SANDBOX (cutbox-rows.mjs): the forced cells as the released guide's own fill.sh prints them over the translation c62652a8632b6d7f… (all of the seat's roots in one cut). By AI agents, Wed Nov 11 2026. No macro, syntax, notation, axiom, sorry.
-/
import Derived.Test.YtdadggaecgkhfaaChecked
import GoSem.Claim
import GoSem.ClaimJoined
import GoSem.ClaimMapViews
import Derived.JoinedTies
import Derived.KernelRfl
namespace Go.Proofs.Ytdadggaecgkhfaa
/- THE CELL 'sum', in the pinned program and in every row, IS THE sha256 OF THE DUMP (.gsa) THAT YtdadggaecgkhfaaProg.lean LOADS. Nothing in Lean hashes anything: it is a label: what it is worth is what the hold of that sum in a sandbox is worth. -/
noncomputable def Try.pinned : Pinned := { name := "ytdadggaecgkhfaa", sum := "c62652a8632b6d7f2f5aeb2afcb24a6fa52e620d8d08c569085f3d5434820696", checked := Try.checked }
namespace Rows
def none {H : Type} : Left H := { results := [], args := [] }

/-- 'cisternlaw05.IntsetAdds': WHATEVER THE INPUT: true; the input reads as it did. -/
def intsetAddsSpec : ChangeSpec := { name := "intsetAdds", fn := fun _ => fun
  | [d1, d2] => { results := [.lit (.bool true)], args := [d1, d2] }
  | _ => none }
def intsetAddsRow : OpenClaim := { program := "ytdadggaecgkhfaa", sum := "c62652a8632b6d7f2f5aeb2afcb24a6fa52e620d8d08c569085f3d5434820696", func := "cistern/cisternlaw05.IntsetAdds", spec := "intsetAdds", unfollowed := true, recurses := true, apart := false }
def IntsetAddsSaid : Prop := intsetAddsRow.holds Try.pinned (OpenSpec.ofChange intsetAddsSpec)

/-- ITS FALSE NEIGHBOUR: 'it returns false'. Refute it at one input. -/
def intsetAddsWrong : ChangeSpec := { name := "intsetAdds", fn := fun _ => fun
  | [d1, d2] => { results := [.lit (.bool false)], args := [d1, d2] }
  | _ => none }
def IntsetAddsWrongFalsely : Prop := intsetAddsRow.holds Try.pinned (OpenSpec.ofChange intsetAddsWrong)

/-- 'cisternlaw05.IntsetOrder': WHATEVER THE INPUT: true; the input reads as it did. -/
def intsetOrderSpec : ChangeSpec := { name := "intsetOrder", fn := fun _ => fun
  | [d] => { results := [.lit (.bool true)], args := [d] }
  | _ => none }
def intsetOrderRow : OpenClaim := { program := "ytdadggaecgkhfaa", sum := "c62652a8632b6d7f2f5aeb2afcb24a6fa52e620d8d08c569085f3d5434820696", func := "cistern/cisternlaw05.IntsetOrder", spec := "intsetOrder", unfollowed := true, recurses := true, apart := false }
def IntsetOrderSaid : Prop := intsetOrderRow.holds Try.pinned (OpenSpec.ofChange intsetOrderSpec)

/-- ITS FALSE NEIGHBOUR: 'it returns false'. Refute it at one input. -/
def intsetOrderWrong : ChangeSpec := { name := "intsetOrder", fn := fun _ => fun
  | [d] => { results := [.lit (.bool false)], args := [d] }
  | _ => none }
def IntsetOrderWrongFalsely : Prop := intsetOrderRow.holds Try.pinned (OpenSpec.ofChange intsetOrderWrong)

/-- 'cisternlaw05.IntsetDrops': WHATEVER THE INPUT: true; the input reads as it did. -/
def intsetDropsSpec : ChangeSpec := { name := "intsetDrops", fn := fun _ => fun
  | [d1, d2] => { results := [.lit (.bool true)], args := [d1, d2] }
  | _ => none }
def intsetDropsRow : OpenClaim := { program := "ytdadggaecgkhfaa", sum := "c62652a8632b6d7f2f5aeb2afcb24a6fa52e620d8d08c569085f3d5434820696", func := "cistern/cisternlaw05.IntsetDrops", spec := "intsetDrops", unfollowed := true, recurses := true, apart := false }
def IntsetDropsSaid : Prop := intsetDropsRow.holds Try.pinned (OpenSpec.ofChange intsetDropsSpec)

/-- ITS FALSE NEIGHBOUR: 'it returns false'. Refute it at one input. -/
def intsetDropsWrong : ChangeSpec := { name := "intsetDrops", fn := fun _ => fun
  | [d1, d2] => { results := [.lit (.bool false)], args := [d1, d2] }
  | _ => none }
def IntsetDropsWrongFalsely : Prop := intsetDropsRow.holds Try.pinned (OpenSpec.ofChange intsetDropsWrong)

/-- 'cisternlaw05.IntsetPlays': WHATEVER THE INPUT: true; the input reads as it did. -/
def intsetPlaysSpec : ChangeSpec := { name := "intsetPlays", fn := fun _ => fun
  | [d1, d2] => { results := [.lit (.bool true)], args := [d1, d2] }
  | _ => none }
def intsetPlaysRow : OpenClaim := { program := "ytdadggaecgkhfaa", sum := "c62652a8632b6d7f2f5aeb2afcb24a6fa52e620d8d08c569085f3d5434820696", func := "cistern/cisternlaw05.IntsetPlays", spec := "intsetPlays", unfollowed := true, recurses := true, apart := false }
def IntsetPlaysSaid : Prop := intsetPlaysRow.holds Try.pinned (OpenSpec.ofChange intsetPlaysSpec)

/-- ITS FALSE NEIGHBOUR: 'it returns false'. Refute it at one input. -/
def intsetPlaysWrong : ChangeSpec := { name := "intsetPlays", fn := fun _ => fun
  | [d1, d2] => { results := [.lit (.bool false)], args := [d1, d2] }
  | _ => none }
def IntsetPlaysWrongFalsely : Prop := intsetPlaysRow.holds Try.pinned (OpenSpec.ofChange intsetPlaysWrong)

/-- 'cisternlaw05.IntsetAsks': WHATEVER THE INPUT: true; the input reads as it did. -/
def intsetAsksSpec : ChangeSpec := { name := "intsetAsks", fn := fun _ => fun
  | [d1, d2, d3] => { results := [.lit (.bool true)], args := [d1, d2, d3] }
  | _ => none }
def intsetAsksRow : OpenClaim := { program := "ytdadggaecgkhfaa", sum := "c62652a8632b6d7f2f5aeb2afcb24a6fa52e620d8d08c569085f3d5434820696", func := "cistern/cisternlaw05.IntsetAsks", spec := "intsetAsks", unfollowed := true, recurses := true, apart := false }
def IntsetAsksSaid : Prop := intsetAsksRow.holds Try.pinned (OpenSpec.ofChange intsetAsksSpec)

/-- ITS FALSE NEIGHBOUR: 'it returns false'. Refute it at one input. -/
def intsetAsksWrong : ChangeSpec := { name := "intsetAsks", fn := fun _ => fun
  | [d1, d2, d3] => { results := [.lit (.bool false)], args := [d1, d2, d3] }
  | _ => none }
def IntsetAsksWrongFalsely : Prop := intsetAsksRow.holds Try.pinned (OpenSpec.ofChange intsetAsksWrong)

/-- 'cisternlaw03.LzfUnpacks': WHATEVER THE INPUT: true; the input reads as it did. -/
def lzfUnpacksSpec : ChangeSpec := { name := "lzfUnpacks", fn := fun _ => fun
  | [d1, d2] => { results := [.lit (.bool true)], args := [d1, d2] }
  | _ => none }
def lzfUnpacksRow : OpenClaim := { program := "ytdadggaecgkhfaa", sum := "c62652a8632b6d7f2f5aeb2afcb24a6fa52e620d8d08c569085f3d5434820696", func := "cistern/cisternlaw03.LzfUnpacks", spec := "lzfUnpacks", apart := false }
def LzfUnpacksSaid : Prop := lzfUnpacksRow.holds Try.pinned (OpenSpec.ofChange lzfUnpacksSpec)

/-- ITS FALSE NEIGHBOUR: 'it returns false'. Refute it at one input. -/
def lzfUnpacksWrong : ChangeSpec := { name := "lzfUnpacks", fn := fun _ => fun
  | [d1, d2] => { results := [.lit (.bool false)], args := [d1, d2] }
  | _ => none }
def LzfUnpacksWrongFalsely : Prop := lzfUnpacksRow.holds Try.pinned (OpenSpec.ofChange lzfUnpacksWrong)

/-- 'cisternlaw03.LzfPacks': WHATEVER THE INPUT: true; the input reads as it did. -/
def lzfPacksSpec : ChangeSpec := { name := "lzfPacks", fn := fun _ => fun
  | [d] => { results := [.lit (.bool true)], args := [d] }
  | _ => none }
def lzfPacksRow : OpenClaim := { program := "ytdadggaecgkhfaa", sum := "c62652a8632b6d7f2f5aeb2afcb24a6fa52e620d8d08c569085f3d5434820696", func := "cistern/cisternlaw03.LzfPacks", spec := "lzfPacks", apart := false }
def LzfPacksSaid : Prop := lzfPacksRow.holds Try.pinned (OpenSpec.ofChange lzfPacksSpec)

/-- ITS FALSE NEIGHBOUR: 'it returns false'. Refute it at one input. -/
def lzfPacksWrong : ChangeSpec := { name := "lzfPacks", fn := fun _ => fun
  | [d] => { results := [.lit (.bool false)], args := [d] }
  | _ => none }
def LzfPacksWrongFalsely : Prop := lzfPacksRow.holds Try.pinned (OpenSpec.ofChange lzfPacksWrong)

/-- 'cisternlaw03.LzfFinds': WHATEVER THE INPUT: true; the input reads as it did. -/
def lzfFindsSpec : ChangeSpec := { name := "lzfFinds", fn := fun _ => fun
  | [d1, d2] => { results := [.lit (.bool true)], args := [d1, d2] }
  | _ => none }
def lzfFindsRow : OpenClaim := { program := "ytdadggaecgkhfaa", sum := "c62652a8632b6d7f2f5aeb2afcb24a6fa52e620d8d08c569085f3d5434820696", func := "cistern/cisternlaw03.LzfFinds", spec := "lzfFinds", apart := false }
def LzfFindsSaid : Prop := lzfFindsRow.holds Try.pinned (OpenSpec.ofChange lzfFindsSpec)

/-- ITS FALSE NEIGHBOUR: 'it returns false'. Refute it at one input. -/
def lzfFindsWrong : ChangeSpec := { name := "lzfFinds", fn := fun _ => fun
  | [d1, d2] => { results := [.lit (.bool false)], args := [d1, d2] }
  | _ => none }
def LzfFindsWrongFalsely : Prop := lzfFindsRow.holds Try.pinned (OpenSpec.ofChange lzfFindsWrong)

/-- 'cisternlaw03.LzfBack': WHATEVER THE INPUT: true; the input reads as it did. -/
def lzfBackSpec : ChangeSpec := { name := "lzfBack", fn := fun _ => fun
  | [d1, d2] => { results := [.lit (.bool true)], args := [d1, d2] }
  | _ => none }
def lzfBackRow : OpenClaim := { program := "ytdadggaecgkhfaa", sum := "c62652a8632b6d7f2f5aeb2afcb24a6fa52e620d8d08c569085f3d5434820696", func := "cistern/cisternlaw03.LzfBack", spec := "lzfBack", apart := false }
def LzfBackSaid : Prop := lzfBackRow.holds Try.pinned (OpenSpec.ofChange lzfBackSpec)

/-- ITS FALSE NEIGHBOUR: 'it returns false'. Refute it at one input. -/
def lzfBackWrong : ChangeSpec := { name := "lzfBack", fn := fun _ => fun
  | [d1, d2] => { results := [.lit (.bool false)], args := [d1, d2] }
  | _ => none }
def LzfBackWrongFalsely : Prop := lzfBackRow.holds Try.pinned (OpenSpec.ofChange lzfBackWrong)

/-- 'cisternlaw03.LzfBounds': WHATEVER THE INPUT: true; the input reads as it did. -/
def lzfBoundsSpec : ChangeSpec := { name := "lzfBounds", fn := fun _ => fun
  | [d1, d2] => { results := [.lit (.bool true)], args := [d1, d2] }
  | _ => none }
def lzfBoundsRow : OpenClaim := { program := "ytdadggaecgkhfaa", sum := "c62652a8632b6d7f2f5aeb2afcb24a6fa52e620d8d08c569085f3d5434820696", func := "cistern/cisternlaw03.LzfBounds", spec := "lzfBounds", apart := false }
def LzfBoundsSaid : Prop := lzfBoundsRow.holds Try.pinned (OpenSpec.ofChange lzfBoundsSpec)

/-- ITS FALSE NEIGHBOUR: 'it returns false'. Refute it at one input. -/
def lzfBoundsWrong : ChangeSpec := { name := "lzfBounds", fn := fun _ => fun
  | [d1, d2] => { results := [.lit (.bool false)], args := [d1, d2] }
  | _ => none }
def LzfBoundsWrongFalsely : Prop := lzfBoundsRow.holds Try.pinned (OpenSpec.ofChange lzfBoundsWrong)

/- THE SECOND FORM. 'bulk': how many values and letters a reading holds, each counted each time it is reached (what is shared counts as often as it is met; a slice's spare places count too). A statement '..UptoSaid' is the law's where the arguments, and the package variables that the reading takes, are together of bulk at most 1048576: NARROWER than '..Said'. Prove '..Said' where nothing that the law and all that it calls make is longer than what came in: it says more and counts as full. Else prove '..UptoSaid'. A law counts once. -/
mutual
def uptoBulk {H : Type} : DataW H → Nat
  | .lit (.string bytes) => bytes.length + 1
  | .lit _ => 1
  | .nil => 1
  | .ptr d => uptoBulk d + 1
  | .slice elems spare => uptoBulkAll elems + uptoBulkAll spare + 1
  | .agg parts => uptoBulkAll parts + 1
  | .iface _ d => uptoBulk d + 1
  | .map entries => uptoBulkEntries entries + 1
  | .held _ => 1
def uptoBulkAll {H : Type} : List (DataW H) → Nat
  | [] => 0
  | d :: r => uptoBulk d + uptoBulkAll r
def uptoBulkEntries {H : Type} : List (Lit × DataW H) → Nat
  | [] => 0
  | x :: r => uptoBulkEntry x + uptoBulkEntries r
def uptoBulkEntry {H : Type} : Lit × DataW H → Nat
  | (.string bytes, d) => bytes.length + uptoBulk d + 1
  | (_, d) => uptoBulk d + 1
 end
def uptoSmall : (H : Type) → List (DataW H) → Bool := fun _ ds => decide (uptoBulkAll ds ≤ 1048576)
def OpenSpec.upto (s : _root_.Go.ChangeSpec) : _root_.Go.OpenSpec := { _root_.Go.OpenSpec.ofChange s with cond := some uptoSmall }

/-- 'cisternlaw05.IntsetAdds', WHERE WHAT IT READS IS OF BULK AT MOST 1048576: true; the input reads as it did. -/
def intsetAddsUptoRow : OpenClaim := { program := "ytdadggaecgkhfaa", sum := "c62652a8632b6d7f2f5aeb2afcb24a6fa52e620d8d08c569085f3d5434820696", func := "cistern/cisternlaw05.IntsetAdds", spec := "intsetAdds", unfollowed := true, recurses := true, apart := false, narrowed := true }
def IntsetAddsUptoSaid : Prop := intsetAddsUptoRow.holds Try.pinned (OpenSpec.upto intsetAddsSpec)

/-- 'cisternlaw05.IntsetOrder', WHERE WHAT IT READS IS OF BULK AT MOST 1048576: true; the input reads as it did. -/
def intsetOrderUptoRow : OpenClaim := { program := "ytdadggaecgkhfaa", sum := "c62652a8632b6d7f2f5aeb2afcb24a6fa52e620d8d08c569085f3d5434820696", func := "cistern/cisternlaw05.IntsetOrder", spec := "intsetOrder", unfollowed := true, recurses := true, apart := false, narrowed := true }
def IntsetOrderUptoSaid : Prop := intsetOrderUptoRow.holds Try.pinned (OpenSpec.upto intsetOrderSpec)

/-- 'cisternlaw05.IntsetDrops', WHERE WHAT IT READS IS OF BULK AT MOST 1048576: true; the input reads as it did. -/
def intsetDropsUptoRow : OpenClaim := { program := "ytdadggaecgkhfaa", sum := "c62652a8632b6d7f2f5aeb2afcb24a6fa52e620d8d08c569085f3d5434820696", func := "cistern/cisternlaw05.IntsetDrops", spec := "intsetDrops", unfollowed := true, recurses := true, apart := false, narrowed := true }
def IntsetDropsUptoSaid : Prop := intsetDropsUptoRow.holds Try.pinned (OpenSpec.upto intsetDropsSpec)

/-- 'cisternlaw05.IntsetPlays', WHERE WHAT IT READS IS OF BULK AT MOST 1048576: true; the input reads as it did. -/
def intsetPlaysUptoRow : OpenClaim := { program := "ytdadggaecgkhfaa", sum := "c62652a8632b6d7f2f5aeb2afcb24a6fa52e620d8d08c569085f3d5434820696", func := "cistern/cisternlaw05.IntsetPlays", spec := "intsetPlays", unfollowed := true, recurses := true, apart := false, narrowed := true }
def IntsetPlaysUptoSaid : Prop := intsetPlaysUptoRow.holds Try.pinned (OpenSpec.upto intsetPlaysSpec)

/-- 'cisternlaw05.IntsetAsks', WHERE WHAT IT READS IS OF BULK AT MOST 1048576: true; the input reads as it did. -/
def intsetAsksUptoRow : OpenClaim := { program := "ytdadggaecgkhfaa", sum := "c62652a8632b6d7f2f5aeb2afcb24a6fa52e620d8d08c569085f3d5434820696", func := "cistern/cisternlaw05.IntsetAsks", spec := "intsetAsks", unfollowed := true, recurses := true, apart := false, narrowed := true }
def IntsetAsksUptoSaid : Prop := intsetAsksUptoRow.holds Try.pinned (OpenSpec.upto intsetAsksSpec)

/-- 'cisternlaw03.LzfUnpacks', WHERE WHAT IT READS IS OF BULK AT MOST 1048576: true; the input reads as it did. -/
def lzfUnpacksUptoRow : OpenClaim := { program := "ytdadggaecgkhfaa", sum := "c62652a8632b6d7f2f5aeb2afcb24a6fa52e620d8d08c569085f3d5434820696", func := "cistern/cisternlaw03.LzfUnpacks", spec := "lzfUnpacks", apart := false, narrowed := true }
def LzfUnpacksUptoSaid : Prop := lzfUnpacksUptoRow.holds Try.pinned (OpenSpec.upto lzfUnpacksSpec)

/-- 'cisternlaw03.LzfPacks', WHERE WHAT IT READS IS OF BULK AT MOST 1048576: true; the input reads as it did. -/
def lzfPacksUptoRow : OpenClaim := { program := "ytdadggaecgkhfaa", sum := "c62652a8632b6d7f2f5aeb2afcb24a6fa52e620d8d08c569085f3d5434820696", func := "cistern/cisternlaw03.LzfPacks", spec := "lzfPacks", apart := false, narrowed := true }
def LzfPacksUptoSaid : Prop := lzfPacksUptoRow.holds Try.pinned (OpenSpec.upto lzfPacksSpec)

/-- 'cisternlaw03.LzfFinds', WHERE WHAT IT READS IS OF BULK AT MOST 1048576: true; the input reads as it did. -/
def lzfFindsUptoRow : OpenClaim := { program := "ytdadggaecgkhfaa", sum := "c62652a8632b6d7f2f5aeb2afcb24a6fa52e620d8d08c569085f3d5434820696", func := "cistern/cisternlaw03.LzfFinds", spec := "lzfFinds", apart := false, narrowed := true }
def LzfFindsUptoSaid : Prop := lzfFindsUptoRow.holds Try.pinned (OpenSpec.upto lzfFindsSpec)

/-- 'cisternlaw03.LzfBack', WHERE WHAT IT READS IS OF BULK AT MOST 1048576: true; the input reads as it did. -/
def lzfBackUptoRow : OpenClaim := { program := "ytdadggaecgkhfaa", sum := "c62652a8632b6d7f2f5aeb2afcb24a6fa52e620d8d08c569085f3d5434820696", func := "cistern/cisternlaw03.LzfBack", spec := "lzfBack", apart := false, narrowed := true }
def LzfBackUptoSaid : Prop := lzfBackUptoRow.holds Try.pinned (OpenSpec.upto lzfBackSpec)

/-- 'cisternlaw03.LzfBounds', WHERE WHAT IT READS IS OF BULK AT MOST 1048576: true; the input reads as it did. -/
def lzfBoundsUptoRow : OpenClaim := { program := "ytdadggaecgkhfaa", sum := "c62652a8632b6d7f2f5aeb2afcb24a6fa52e620d8d08c569085f3d5434820696", func := "cistern/cisternlaw03.LzfBounds", spec := "lzfBounds", apart := false, narrowed := true }
def LzfBoundsUptoSaid : Prop := lzfBoundsUptoRow.holds Try.pinned (OpenSpec.upto lzfBoundsSpec)

end Rows
end Go.Proofs.Ytdadggaecgkhfaa
