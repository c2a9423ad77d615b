/-
  No cell of these rows narrows 'for every input' (looked for: loops, veiled, ifaces, maps, wideKeys, modest, calm, conditions, laid).
  DERIVED. THE GIVEN ROWS OF THIS SEAT. 5 by the template 'for every input the law returns true; each argument reads behind the call as it read before'; 0 by the template 'total and deterministic' (their statements: YtmhgahkainmbkaaTotals.lean).
  GIVEN WITH THE SEED: the statements are not yours to turn. If you find one false, say at which input.
  Laid BY PROGRAM, IN A SANDBOX (cutbox-rows.mjs): the forced cells as the released guide's own fill.sh prints them over the translation 4e2e9a6ed15420a4… (all of the seat's roots in one cut). By AI agents, Wed Nov 11 2026. No macro, syntax, notation, axiom, sorry.
-/
import Derived.Test.YtmhgahkainmbkaaChecked
import GoSem.Claim
import GoSem.ClaimJoined
import GoSem.ClaimMapViews
import Derived.JoinedTies
import Derived.KernelRfl
namespace Go.Proofs.Ytmhgahkainmbkaa
/- THE CELL 'sum', in the pinned program and in every row, IS THE sha256 OF THE DUMP (.gsa) THAT YtmhgahkainmbkaaProg.lean LOADS. Nothing in Lean hashes anything: it is a label: what it is worth is what the hold of that sum in a sandbox is worth. -/
noncomputable def Try.pinned : Pinned := { name := "ytmhgahkainmbkaa", sum := "4e2e9a6ed15420a4baddb372f36bfa966b8e3fcbc65154fc79d5ddc76b26dd83", checked := Try.checked }
namespace Rows
def none {H : Type} : Left H := { results := [], args := [] }

/-- 'bootjacklaw04.AllocLays': WHATEVER THE INPUT: true; the input reads as it did. -/
def allocLaysSpec : ChangeSpec := { name := "allocLays", fn := fun _ => fun
  | [d] => { results := [.lit (.bool true)], args := [d] }
  | _ => none }
def allocLaysRow : OpenClaim := { program := "ytmhgahkainmbkaa", sum := "4e2e9a6ed15420a4baddb372f36bfa966b8e3fcbc65154fc79d5ddc76b26dd83", func := "bootjack/bootjacklaw04.AllocLays", spec := "allocLays", unfollowed := true, recurses := true, apart := false }
def AllocLaysSaid : Prop := allocLaysRow.holds Try.pinned (OpenSpec.ofChange allocLaysSpec)

/-- ITS FALSE NEIGHBOUR: 'it returns false'. Refute it at one input. -/
def allocLaysWrong : ChangeSpec := { name := "allocLays", fn := fun _ => fun
  | [d] => { results := [.lit (.bool false)], args := [d] }
  | _ => none }
def AllocLaysWrongFalsely : Prop := allocLaysRow.holds Try.pinned (OpenSpec.ofChange allocLaysWrong)

/-- 'bootjacklaw04.AllocDamage': WHATEVER THE INPUT: true; the input reads as it did. -/
def allocDamageSpec : ChangeSpec := { name := "allocDamage", fn := fun _ => fun
  | [d1, d2, d3, d4] => { results := [.lit (.bool true)], args := [d1, d2, d3, d4] }
  | _ => none }
def allocDamageRow : OpenClaim := { program := "ytmhgahkainmbkaa", sum := "4e2e9a6ed15420a4baddb372f36bfa966b8e3fcbc65154fc79d5ddc76b26dd83", func := "bootjack/bootjacklaw04.AllocDamage", spec := "allocDamage", unfollowed := true, recurses := true, apart := false }
def AllocDamageSaid : Prop := allocDamageRow.holds Try.pinned (OpenSpec.ofChange allocDamageSpec)

/-- ITS FALSE NEIGHBOUR: 'it returns false'. Refute it at one input. -/
def allocDamageWrong : ChangeSpec := { name := "allocDamage", fn := fun _ => fun
  | [d1, d2, d3, d4] => { results := [.lit (.bool false)], args := [d1, d2, d3, d4] }
  | _ => none }
def AllocDamageWrongFalsely : Prop := allocDamageRow.holds Try.pinned (OpenSpec.ofChange allocDamageWrong)

/-- 'bootjacklaw04.AllocBack': WHATEVER THE INPUT: true; the input reads as it did. -/
def allocBackSpec : ChangeSpec := { name := "allocBack", fn := fun _ => fun
  | [d1, d2, d3] => { results := [.lit (.bool true)], args := [d1, d2, d3] }
  | _ => none }
def allocBackRow : OpenClaim := { program := "ytmhgahkainmbkaa", sum := "4e2e9a6ed15420a4baddb372f36bfa966b8e3fcbc65154fc79d5ddc76b26dd83", func := "bootjack/bootjacklaw04.AllocBack", spec := "allocBack", unfollowed := true, recurses := true, apart := false }
def AllocBackSaid : Prop := allocBackRow.holds Try.pinned (OpenSpec.ofChange allocBackSpec)

/-- ITS FALSE NEIGHBOUR: 'it returns false'. Refute it at one input. -/
def allocBackWrong : ChangeSpec := { name := "allocBack", fn := fun _ => fun
  | [d1, d2, d3] => { results := [.lit (.bool false)], args := [d1, d2, d3] }
  | _ => none }
def AllocBackWrongFalsely : Prop := allocBackRow.holds Try.pinned (OpenSpec.ofChange allocBackWrong)

/-- 'bootjacklaw04.AllocOnce': WHATEVER THE INPUT: true; the input reads as it did. -/
def allocOnceSpec : ChangeSpec := { name := "allocOnce", fn := fun _ => fun
  | [d1, d2, d3] => { results := [.lit (.bool true)], args := [d1, d2, d3] }
  | _ => none }
def allocOnceRow : OpenClaim := { program := "ytmhgahkainmbkaa", sum := "4e2e9a6ed15420a4baddb372f36bfa966b8e3fcbc65154fc79d5ddc76b26dd83", func := "bootjack/bootjacklaw04.AllocOnce", spec := "allocOnce", unfollowed := true, recurses := true, apart := false }
def AllocOnceSaid : Prop := allocOnceRow.holds Try.pinned (OpenSpec.ofChange allocOnceSpec)

/-- ITS FALSE NEIGHBOUR: 'it returns false'. Refute it at one input. -/
def allocOnceWrong : ChangeSpec := { name := "allocOnce", fn := fun _ => fun
  | [d1, d2, d3] => { results := [.lit (.bool false)], args := [d1, d2, d3] }
  | _ => none }
def AllocOnceWrongFalsely : Prop := allocOnceRow.holds Try.pinned (OpenSpec.ofChange allocOnceWrong)

/-- 'bootjacklaw04.AllocPlays': WHATEVER THE INPUT: true; the input reads as it did. -/
def allocPlaysSpec : ChangeSpec := { name := "allocPlays", fn := fun _ => fun
  | [d1, d2] => { results := [.lit (.bool true)], args := [d1, d2] }
  | _ => none }
def allocPlaysRow : OpenClaim := { program := "ytmhgahkainmbkaa", sum := "4e2e9a6ed15420a4baddb372f36bfa966b8e3fcbc65154fc79d5ddc76b26dd83", func := "bootjack/bootjacklaw04.AllocPlays", spec := "allocPlays", unfollowed := true, recurses := true, apart := false }
def AllocPlaysSaid : Prop := allocPlaysRow.holds Try.pinned (OpenSpec.ofChange allocPlaysSpec)

/-- ITS FALSE NEIGHBOUR: 'it returns false'. Refute it at one input. -/
def allocPlaysWrong : ChangeSpec := { name := "allocPlays", fn := fun _ => fun
  | [d1, d2] => { results := [.lit (.bool false)], args := [d1, d2] }
  | _ => none }
def AllocPlaysWrongFalsely : Prop := allocPlaysRow.holds Try.pinned (OpenSpec.ofChange allocPlaysWrong)

/- THE SECOND FORM. 'bulk': how many values and letters a reading holds, each counted each time it is reached (what is shared counts as often as it is met; a slice's spare places count too). A statement '..UptoSaid' is the law's where the arguments, and the package variables that the reading takes, are together of bulk at most 1048576: NARROWER than '..Said'. Prove '..Said' where nothing that the law and all that it calls make is longer than what came in: it says more and counts as full. Else prove '..UptoSaid'. A law counts once. -/
mutual
def uptoBulk {H : Type} : DataW H → Nat
  | .lit (.string bytes) => bytes.length + 1
  | .lit _ => 1
  | .nil => 1
  | .ptr d => uptoBulk d + 1
  | .slice elems spare => uptoBulkAll elems + uptoBulkAll spare + 1
  | .agg parts => uptoBulkAll parts + 1
  | .iface _ d => uptoBulk d + 1
  | .map entries => uptoBulkEntries entries + 1
  | .held _ => 1
def uptoBulkAll {H : Type} : List (DataW H) → Nat
  | [] => 0
  | d :: r => uptoBulk d + uptoBulkAll r
def uptoBulkEntries {H : Type} : List (Lit × DataW H) → Nat
  | [] => 0
  | x :: r => uptoBulkEntry x + uptoBulkEntries r
def uptoBulkEntry {H : Type} : Lit × DataW H → Nat
  | (.string bytes, d) => bytes.length + uptoBulk d + 1
  | (_, d) => uptoBulk d + 1
 end
def uptoSmall : (H : Type) → List (DataW H) → Bool := fun _ ds => decide (uptoBulkAll ds ≤ 1048576)
def OpenSpec.upto (s : _root_.Go.ChangeSpec) : _root_.Go.OpenSpec := { _root_.Go.OpenSpec.ofChange s with cond := some uptoSmall }

/-- 'bootjacklaw04.AllocLays', WHERE WHAT IT READS IS OF BULK AT MOST 1048576: true; the input reads as it did. -/
def allocLaysUptoRow : OpenClaim := { program := "ytmhgahkainmbkaa", sum := "4e2e9a6ed15420a4baddb372f36bfa966b8e3fcbc65154fc79d5ddc76b26dd83", func := "bootjack/bootjacklaw04.AllocLays", spec := "allocLays", unfollowed := true, recurses := true, apart := false, narrowed := true }
def AllocLaysUptoSaid : Prop := allocLaysUptoRow.holds Try.pinned (OpenSpec.upto allocLaysSpec)

/-- 'bootjacklaw04.AllocDamage', WHERE WHAT IT READS IS OF BULK AT MOST 1048576: true; the input reads as it did. -/
def allocDamageUptoRow : OpenClaim := { program := "ytmhgahkainmbkaa", sum := "4e2e9a6ed15420a4baddb372f36bfa966b8e3fcbc65154fc79d5ddc76b26dd83", func := "bootjack/bootjacklaw04.AllocDamage", spec := "allocDamage", unfollowed := true, recurses := true, apart := false, narrowed := true }
def AllocDamageUptoSaid : Prop := allocDamageUptoRow.holds Try.pinned (OpenSpec.upto allocDamageSpec)

/-- 'bootjacklaw04.AllocBack', WHERE WHAT IT READS IS OF BULK AT MOST 1048576: true; the input reads as it did. -/
def allocBackUptoRow : OpenClaim := { program := "ytmhgahkainmbkaa", sum := "4e2e9a6ed15420a4baddb372f36bfa966b8e3fcbc65154fc79d5ddc76b26dd83", func := "bootjack/bootjacklaw04.AllocBack", spec := "allocBack", unfollowed := true, recurses := true, apart := false, narrowed := true }
def AllocBackUptoSaid : Prop := allocBackUptoRow.holds Try.pinned (OpenSpec.upto allocBackSpec)

/-- 'bootjacklaw04.AllocOnce', WHERE WHAT IT READS IS OF BULK AT MOST 1048576: true; the input reads as it did. -/
def allocOnceUptoRow : OpenClaim := { program := "ytmhgahkainmbkaa", sum := "4e2e9a6ed15420a4baddb372f36bfa966b8e3fcbc65154fc79d5ddc76b26dd83", func := "bootjack/bootjacklaw04.AllocOnce", spec := "allocOnce", unfollowed := true, recurses := true, apart := false, narrowed := true }
def AllocOnceUptoSaid : Prop := allocOnceUptoRow.holds Try.pinned (OpenSpec.upto allocOnceSpec)

/-- 'bootjacklaw04.AllocPlays', WHERE WHAT IT READS IS OF BULK AT MOST 1048576: true; the input reads as it did. -/
def allocPlaysUptoRow : OpenClaim := { program := "ytmhgahkainmbkaa", sum := "4e2e9a6ed15420a4baddb372f36bfa966b8e3fcbc65154fc79d5ddc76b26dd83", func := "bootjack/bootjacklaw04.AllocPlays", spec := "allocPlays", unfollowed := true, recurses := true, apart := false, narrowed := true }
def AllocPlaysUptoSaid : Prop := allocPlaysUptoRow.holds Try.pinned (OpenSpec.upto allocPlaysSpec)

end Rows
end Go.Proofs.Ytmhgahkainmbkaa
