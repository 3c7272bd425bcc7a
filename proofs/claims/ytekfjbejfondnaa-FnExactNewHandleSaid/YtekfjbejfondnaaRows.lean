/-
  No cell of these rows narrows 'for every input' (looked for: loops, veiled, ifaces, maps, wideKeys, modest, calm, conditions, laid).
  DERIVED. THE GIVEN ROWS OF THIS SEAT. 7 by the template 'for every input the law returns true; each argument reads behind the call as it read before'; 0 by the template 'total and deterministic' (their statements: YtekfjbejfondnaaTotals.lean).
  GIVEN WITH THE SEED: the statements are not yours to turn. If you find one false, say at which input.
  Laid BY PROGRAM, IN A SANDBOX (cutbox-rows.mjs): the forced cells as the released guide's own fill.sh prints them over the translation 1baefd7a02109561… (all of the seat's roots in one cut). By AI agents, Wed Nov 11 2026. No macro, syntax, notation, axiom, sorry.
-/
import Derived.Test.YtekfjbejfondnaaChecked
import GoSem.Claim
import GoSem.ClaimJoined
import GoSem.ClaimMapViews
import Derived.JoinedTies
import Derived.KernelRfl
namespace Go.Proofs.Ytekfjbejfondnaa
/- THE CELL 'sum', in the pinned program and in every row, IS THE sha256 OF THE DUMP (.gsa) THAT YtekfjbejfondnaaProg.lean LOADS. Nothing in Lean hashes anything: it is a label: what it is worth is what the hold of that sum in a sandbox is worth. -/
noncomputable def Try.pinned : Pinned := { name := "ytekfjbejfondnaa", sum := "1baefd7a02109561d46ac6612b67eb497860e7727372555b658667a1712d1ac7", checked := Try.checked }
namespace Rows
def none {H : Type} : Left H := { results := [], args := [] }

/-- 'laws.FnExactValueOf': WHATEVER THE INPUT: true; the input reads as it did. -/
def fnExactValueOfSpec : ChangeSpec := { name := "fnExactValueOf", fn := fun _ => fun
  | [d1, d2] => { results := [.lit (.bool true)], args := [d1, d2] }
  | _ => none }
def fnExactValueOfRow : OpenClaim := { program := "ytekfjbejfondnaa", sum := "1baefd7a02109561d46ac6612b67eb497860e7727372555b658667a1712d1ac7", func := "loop.example/g00627/laws.FnExactValueOf", spec := "fnExactValueOf", unfollowed := true, recurses := true, apart := false }
def FnExactValueOfSaid : Prop := fnExactValueOfRow.holds Try.pinned (OpenSpec.ofChange fnExactValueOfSpec)

/-- ITS FALSE NEIGHBOUR: 'it returns false'. Refute it at one input. -/
def fnExactValueOfWrong : ChangeSpec := { name := "fnExactValueOf", fn := fun _ => fun
  | [d1, d2] => { results := [.lit (.bool false)], args := [d1, d2] }
  | _ => none }
def FnExactValueOfWrongFalsely : Prop := fnExactValueOfRow.holds Try.pinned (OpenSpec.ofChange fnExactValueOfWrong)

/-- 'laws.FnExactLeftFor': WHATEVER THE INPUT: true; the input reads as it did. -/
def fnExactLeftForSpec : ChangeSpec := { name := "fnExactLeftFor", fn := fun _ => fun
  | [d] => { results := [.lit (.bool true)], args := [d] }
  | _ => none }
def fnExactLeftForRow : OpenClaim := { program := "ytekfjbejfondnaa", sum := "1baefd7a02109561d46ac6612b67eb497860e7727372555b658667a1712d1ac7", func := "loop.example/g00627/laws.FnExactLeftFor", spec := "fnExactLeftFor", unfollowed := true, recurses := true, apart := false }
def FnExactLeftForSaid : Prop := fnExactLeftForRow.holds Try.pinned (OpenSpec.ofChange fnExactLeftForSpec)

/-- ITS FALSE NEIGHBOUR: 'it returns false'. Refute it at one input. -/
def fnExactLeftForWrong : ChangeSpec := { name := "fnExactLeftFor", fn := fun _ => fun
  | [d] => { results := [.lit (.bool false)], args := [d] }
  | _ => none }
def FnExactLeftForWrongFalsely : Prop := fnExactLeftForRow.holds Try.pinned (OpenSpec.ofChange fnExactLeftForWrong)

/-- 'laws.FnExactFreeHandle': WHATEVER THE INPUT: true; the input reads as it did. -/
def fnExactFreeHandleSpec : ChangeSpec := { name := "fnExactFreeHandle", fn := fun _ => fun
  | [d1, d2] => { results := [.lit (.bool true)], args := [d1, d2] }
  | _ => none }
def fnExactFreeHandleRow : OpenClaim := { program := "ytekfjbejfondnaa", sum := "1baefd7a02109561d46ac6612b67eb497860e7727372555b658667a1712d1ac7", func := "loop.example/g00627/laws.FnExactFreeHandle", spec := "fnExactFreeHandle", unfollowed := true, recurses := true, apart := false }
def FnExactFreeHandleSaid : Prop := fnExactFreeHandleRow.holds Try.pinned (OpenSpec.ofChange fnExactFreeHandleSpec)

/-- ITS FALSE NEIGHBOUR: 'it returns false'. Refute it at one input. -/
def fnExactFreeHandleWrong : ChangeSpec := { name := "fnExactFreeHandle", fn := fun _ => fun
  | [d1, d2] => { results := [.lit (.bool false)], args := [d1, d2] }
  | _ => none }
def FnExactFreeHandleWrongFalsely : Prop := fnExactFreeHandleRow.holds Try.pinned (OpenSpec.ofChange fnExactFreeHandleWrong)

/-- 'laws.FnExactNewHandle': WHATEVER THE INPUT: true; the input reads as it did. -/
def fnExactNewHandleSpec : ChangeSpec := { name := "fnExactNewHandle", fn := fun _ => fun
  | [d1, d2] => { results := [.lit (.bool true)], args := [d1, d2] }
  | _ => none }
def fnExactNewHandleRow : OpenClaim := { program := "ytekfjbejfondnaa", sum := "1baefd7a02109561d46ac6612b67eb497860e7727372555b658667a1712d1ac7", func := "loop.example/g00627/laws.FnExactNewHandle", spec := "fnExactNewHandle", unfollowed := true, recurses := true, apart := false }
def FnExactNewHandleSaid : Prop := fnExactNewHandleRow.holds Try.pinned (OpenSpec.ofChange fnExactNewHandleSpec)

/-- ITS FALSE NEIGHBOUR: 'it returns false'. Refute it at one input. -/
def fnExactNewHandleWrong : ChangeSpec := { name := "fnExactNewHandle", fn := fun _ => fun
  | [d1, d2] => { results := [.lit (.bool false)], args := [d1, d2] }
  | _ => none }
def FnExactNewHandleWrongFalsely : Prop := fnExactNewHandleRow.holds Try.pinned (OpenSpec.ofChange fnExactNewHandleWrong)

/-- 'laws.FnFreed': WHATEVER THE INPUT: true; the input reads as it did. -/
def fnFreedSpec : ChangeSpec := { name := "fnFreed", fn := fun _ => fun
  | [d1, d2] => { results := [.lit (.bool true)], args := [d1, d2] }
  | _ => none }
def fnFreedRow : OpenClaim := { program := "ytekfjbejfondnaa", sum := "1baefd7a02109561d46ac6612b67eb497860e7727372555b658667a1712d1ac7", func := "loop.example/g00627/laws.FnFreed", spec := "fnFreed", unfollowed := true, recurses := true, apart := false }
def FnFreedSaid : Prop := fnFreedRow.holds Try.pinned (OpenSpec.ofChange fnFreedSpec)

/-- ITS FALSE NEIGHBOUR: 'it returns false'. Refute it at one input. -/
def fnFreedWrong : ChangeSpec := { name := "fnFreed", fn := fun _ => fun
  | [d1, d2] => { results := [.lit (.bool false)], args := [d1, d2] }
  | _ => none }
def FnFreedWrongFalsely : Prop := fnFreedRow.holds Try.pinned (OpenSpec.ofChange fnFreedWrong)

/-- 'laws.FnHandles': WHATEVER THE INPUT: true; the input reads as it did. -/
def fnHandlesSpec : ChangeSpec := { name := "fnHandles", fn := fun _ => fun
  | [d1, d2] => { results := [.lit (.bool true)], args := [d1, d2] }
  | _ => none }
def fnHandlesRow : OpenClaim := { program := "ytekfjbejfondnaa", sum := "1baefd7a02109561d46ac6612b67eb497860e7727372555b658667a1712d1ac7", func := "loop.example/g00627/laws.FnHandles", spec := "fnHandles", unfollowed := true, recurses := true, apart := false }
def FnHandlesSaid : Prop := fnHandlesRow.holds Try.pinned (OpenSpec.ofChange fnHandlesSpec)

/-- ITS FALSE NEIGHBOUR: 'it returns false'. Refute it at one input. -/
def fnHandlesWrong : ChangeSpec := { name := "fnHandles", fn := fun _ => fun
  | [d1, d2] => { results := [.lit (.bool false)], args := [d1, d2] }
  | _ => none }
def FnHandlesWrongFalsely : Prop := fnHandlesRow.holds Try.pinned (OpenSpec.ofChange fnHandlesWrong)

/-- 'laws.FnExactPlayBook': WHATEVER THE INPUT: true; the input reads as it did. -/
def fnExactPlayBookSpec : ChangeSpec := { name := "fnExactPlayBook", fn := fun _ => fun
  | [d1, d2] => { results := [.lit (.bool true)], args := [d1, d2] }
  | _ => none }
def fnExactPlayBookRow : OpenClaim := { program := "ytekfjbejfondnaa", sum := "1baefd7a02109561d46ac6612b67eb497860e7727372555b658667a1712d1ac7", func := "loop.example/g00627/laws.FnExactPlayBook", spec := "fnExactPlayBook", apart := false }
def FnExactPlayBookSaid : Prop := fnExactPlayBookRow.holds Try.pinned (OpenSpec.ofChange fnExactPlayBookSpec)

/-- ITS FALSE NEIGHBOUR: 'it returns false'. Refute it at one input. -/
def fnExactPlayBookWrong : ChangeSpec := { name := "fnExactPlayBook", fn := fun _ => fun
  | [d1, d2] => { results := [.lit (.bool false)], args := [d1, d2] }
  | _ => none }
def FnExactPlayBookWrongFalsely : Prop := fnExactPlayBookRow.holds Try.pinned (OpenSpec.ofChange fnExactPlayBookWrong)

/- THE SECOND FORM. 'bulk': how many values and letters a reading holds, each counted each time it is reached (what is shared counts as often as it is met; a slice's spare places count too). A statement '..UptoSaid' is the law's where the arguments, and the package variables that the reading takes, are together of bulk at most 1048576: NARROWER than '..Said'. Prove '..Said' where nothing that the law and all that it calls make is longer than what came in: it says more and counts as full. Else prove '..UptoSaid'. A law counts once. -/
mutual
def uptoBulk {H : Type} : DataW H → Nat
  | .lit (.string bytes) => bytes.length + 1
  | .lit _ => 1
  | .nil => 1
  | .ptr d => uptoBulk d + 1
  | .slice elems spare => uptoBulkAll elems + uptoBulkAll spare + 1
  | .agg parts => uptoBulkAll parts + 1
  | .iface _ d => uptoBulk d + 1
  | .map entries => uptoBulkEntries entries + 1
  | .held _ => 1
def uptoBulkAll {H : Type} : List (DataW H) → Nat
  | [] => 0
  | d :: r => uptoBulk d + uptoBulkAll r
def uptoBulkEntries {H : Type} : List (Lit × DataW H) → Nat
  | [] => 0
  | x :: r => uptoBulkEntry x + uptoBulkEntries r
def uptoBulkEntry {H : Type} : Lit × DataW H → Nat
  | (.string bytes, d) => bytes.length + uptoBulk d + 1
  | (_, d) => uptoBulk d + 1
 end
def uptoSmall : (H : Type) → List (DataW H) → Bool := fun _ ds => decide (uptoBulkAll ds ≤ 1048576)
def OpenSpec.upto (s : _root_.Go.ChangeSpec) : _root_.Go.OpenSpec := { _root_.Go.OpenSpec.ofChange s with cond := some uptoSmall }

/-- 'laws.FnExactValueOf', WHERE WHAT IT READS IS OF BULK AT MOST 1048576: true; the input reads as it did. -/
def fnExactValueOfUptoRow : OpenClaim := { program := "ytekfjbejfondnaa", sum := "1baefd7a02109561d46ac6612b67eb497860e7727372555b658667a1712d1ac7", func := "loop.example/g00627/laws.FnExactValueOf", spec := "fnExactValueOf", unfollowed := true, recurses := true, apart := false, narrowed := true }
def FnExactValueOfUptoSaid : Prop := fnExactValueOfUptoRow.holds Try.pinned (OpenSpec.upto fnExactValueOfSpec)

/-- 'laws.FnExactLeftFor', WHERE WHAT IT READS IS OF BULK AT MOST 1048576: true; the input reads as it did. -/
def fnExactLeftForUptoRow : OpenClaim := { program := "ytekfjbejfondnaa", sum := "1baefd7a02109561d46ac6612b67eb497860e7727372555b658667a1712d1ac7", func := "loop.example/g00627/laws.FnExactLeftFor", spec := "fnExactLeftFor", unfollowed := true, recurses := true, apart := false, narrowed := true }
def FnExactLeftForUptoSaid : Prop := fnExactLeftForUptoRow.holds Try.pinned (OpenSpec.upto fnExactLeftForSpec)

/-- 'laws.FnExactFreeHandle', WHERE WHAT IT READS IS OF BULK AT MOST 1048576: true; the input reads as it did. -/
def fnExactFreeHandleUptoRow : OpenClaim := { program := "ytekfjbejfondnaa", sum := "1baefd7a02109561d46ac6612b67eb497860e7727372555b658667a1712d1ac7", func := "loop.example/g00627/laws.FnExactFreeHandle", spec := "fnExactFreeHandle", unfollowed := true, recurses := true, apart := false, narrowed := true }
def FnExactFreeHandleUptoSaid : Prop := fnExactFreeHandleUptoRow.holds Try.pinned (OpenSpec.upto fnExactFreeHandleSpec)

/-- 'laws.FnExactNewHandle', WHERE WHAT IT READS IS OF BULK AT MOST 1048576: true; the input reads as it did. -/
def fnExactNewHandleUptoRow : OpenClaim := { program := "ytekfjbejfondnaa", sum := "1baefd7a02109561d46ac6612b67eb497860e7727372555b658667a1712d1ac7", func := "loop.example/g00627/laws.FnExactNewHandle", spec := "fnExactNewHandle", unfollowed := true, recurses := true, apart := false, narrowed := true }
def FnExactNewHandleUptoSaid : Prop := fnExactNewHandleUptoRow.holds Try.pinned (OpenSpec.upto fnExactNewHandleSpec)

/-- 'laws.FnFreed', WHERE WHAT IT READS IS OF BULK AT MOST 1048576: true; the input reads as it did. -/
def fnFreedUptoRow : OpenClaim := { program := "ytekfjbejfondnaa", sum := "1baefd7a02109561d46ac6612b67eb497860e7727372555b658667a1712d1ac7", func := "loop.example/g00627/laws.FnFreed", spec := "fnFreed", unfollowed := true, recurses := true, apart := false, narrowed := true }
def FnFreedUptoSaid : Prop := fnFreedUptoRow.holds Try.pinned (OpenSpec.upto fnFreedSpec)

/-- 'laws.FnHandles', WHERE WHAT IT READS IS OF BULK AT MOST 1048576: true; the input reads as it did. -/
def fnHandlesUptoRow : OpenClaim := { program := "ytekfjbejfondnaa", sum := "1baefd7a02109561d46ac6612b67eb497860e7727372555b658667a1712d1ac7", func := "loop.example/g00627/laws.FnHandles", spec := "fnHandles", unfollowed := true, recurses := true, apart := false, narrowed := true }
def FnHandlesUptoSaid : Prop := fnHandlesUptoRow.holds Try.pinned (OpenSpec.upto fnHandlesSpec)

/-- 'laws.FnExactPlayBook', WHERE WHAT IT READS IS OF BULK AT MOST 1048576: true; the input reads as it did. -/
def fnExactPlayBookUptoRow : OpenClaim := { program := "ytekfjbejfondnaa", sum := "1baefd7a02109561d46ac6612b67eb497860e7727372555b658667a1712d1ac7", func := "loop.example/g00627/laws.FnExactPlayBook", spec := "fnExactPlayBook", apart := false, narrowed := true }
def FnExactPlayBookUptoSaid : Prop := fnExactPlayBookUptoRow.holds Try.pinned (OpenSpec.upto fnExactPlayBookSpec)

end Rows
end Go.Proofs.Ytekfjbejfondnaa
