/-
  No cell of these rows narrows 'for every input' (looked for: loops, veiled, ifaces, maps, wideKeys, modest, calm, conditions, laid).
  DERIVED. THE GIVEN ROWS OF THIS SEAT. 11 by the template 'for every input the law returns true; each argument reads behind the call as it read before'; 0 by the template 'total and deterministic' (their statements: YtdnhdfnghkkncaaTotals.lean).
  GIVEN WITH THE SEED: the statements are not yours to turn. If you find one false, say at which input.
  Laid BY PROGRAM, IN A SANDBOX (cutbox-rows.mjs): the forced cells as the released guide's own fill.sh prints them over the translation d7e8a01db6067825… (all of the seat's roots in one cut). By AI agents, Wed Nov 11 2026. No macro, syntax, notation, axiom, sorry.
-/
import Derived.Test.YtdnhdfnghkkncaaChecked
import GoSem.Claim
import GoSem.ClaimJoined
import GoSem.ClaimMapViews
import Derived.JoinedTies
import Derived.KernelRfl
namespace Go.Proofs.Ytdnhdfnghkkncaa
/- THE CELL 'sum', in the pinned program and in every row, IS THE sha256 OF THE DUMP (.gsa) THAT YtdnhdfnghkkncaaProg.lean LOADS. Nothing in Lean hashes anything: it is a label: what it is worth is what the hold of that sum in a sandbox is worth. -/
noncomputable def Try.pinned : Pinned := { name := "ytdnhdfnghkkncaa", sum := "d7e8a01db6067825ebefe0565ef0d1440e159809ca5e13756cc6094a69d4499e", checked := Try.checked }
namespace Rows
def none {H : Type} : Left H := { results := [], args := [] }

/-- 'laws.FnBeyond': WHATEVER THE INPUT: true; the input reads as it did. -/
def fnBeyondSpec : ChangeSpec := { name := "fnBeyond", fn := fun _ => fun
  | [d1, d2] => { results := [.lit (.bool true)], args := [d1, d2] }
  | _ => none }
def fnBeyondRow : OpenClaim := { program := "ytdnhdfnghkkncaa", sum := "d7e8a01db6067825ebefe0565ef0d1440e159809ca5e13756cc6094a69d4499e", func := "loop.example/g01268/laws.FnBeyond", spec := "fnBeyond", unfollowed := true, recurses := true, apart := false }
def FnBeyondSaid : Prop := fnBeyondRow.holds Try.pinned (OpenSpec.ofChange fnBeyondSpec)

/-- ITS FALSE NEIGHBOUR: 'it returns false'. Refute it at one input. -/
def fnBeyondWrong : ChangeSpec := { name := "fnBeyond", fn := fun _ => fun
  | [d1, d2] => { results := [.lit (.bool false)], args := [d1, d2] }
  | _ => none }
def FnBeyondWrongFalsely : Prop := fnBeyondRow.holds Try.pinned (OpenSpec.ofChange fnBeyondWrong)

/-- 'laws.FnPieces': WHATEVER THE INPUT: true; the input reads as it did. -/
def fnPiecesSpec : ChangeSpec := { name := "fnPieces", fn := fun _ => fun
  | [d1, d2] => { results := [.lit (.bool true)], args := [d1, d2] }
  | _ => none }
def fnPiecesRow : OpenClaim := { program := "ytdnhdfnghkkncaa", sum := "d7e8a01db6067825ebefe0565ef0d1440e159809ca5e13756cc6094a69d4499e", func := "loop.example/g01268/laws.FnPieces", spec := "fnPieces", inPlace := ["math.sqrt"], unfollowed := true, recurses := true, apart := false }
def FnPiecesSaid : Prop := fnPiecesRow.holds Try.pinned (OpenSpec.ofChange fnPiecesSpec)

/-- ITS FALSE NEIGHBOUR: 'it returns false'. Refute it at one input. -/
def fnPiecesWrong : ChangeSpec := { name := "fnPieces", fn := fun _ => fun
  | [d1, d2] => { results := [.lit (.bool false)], args := [d1, d2] }
  | _ => none }
def FnPiecesWrongFalsely : Prop := fnPiecesRow.holds Try.pinned (OpenSpec.ofChange fnPiecesWrong)

/-- 'laws.FnFlown': WHATEVER THE INPUT: true; the input reads as it did. -/
def fnFlownSpec : ChangeSpec := { name := "fnFlown", fn := fun _ => fun
  | [d1, d2] => { results := [.lit (.bool true)], args := [d1, d2] }
  | _ => none }
def fnFlownRow : OpenClaim := { program := "ytdnhdfnghkkncaa", sum := "d7e8a01db6067825ebefe0565ef0d1440e159809ca5e13756cc6094a69d4499e", func := "loop.example/g01268/laws.FnFlown", spec := "fnFlown", inPlace := ["math.sqrt"], unfollowed := true, recurses := true, apart := false }
def FnFlownSaid : Prop := fnFlownRow.holds Try.pinned (OpenSpec.ofChange fnFlownSpec)

/-- ITS FALSE NEIGHBOUR: 'it returns false'. Refute it at one input. -/
def fnFlownWrong : ChangeSpec := { name := "fnFlown", fn := fun _ => fun
  | [d1, d2] => { results := [.lit (.bool false)], args := [d1, d2] }
  | _ => none }
def FnFlownWrongFalsely : Prop := fnFlownRow.holds Try.pinned (OpenSpec.ofChange fnFlownWrong)

/-- 'laws.FnTouches': WHATEVER THE INPUT: true; the input reads as it did. -/
def fnTouchesSpec : ChangeSpec := { name := "fnTouches", fn := fun _ => fun
  | [d1, d2] => { results := [.lit (.bool true)], args := [d1, d2] }
  | _ => none }
def fnTouchesRow : OpenClaim := { program := "ytdnhdfnghkkncaa", sum := "d7e8a01db6067825ebefe0565ef0d1440e159809ca5e13756cc6094a69d4499e", func := "loop.example/g01268/laws.FnTouches", spec := "fnTouches", inPlace := ["math.sqrt"], unfollowed := true, recurses := true, apart := false }
def FnTouchesSaid : Prop := fnTouchesRow.holds Try.pinned (OpenSpec.ofChange fnTouchesSpec)

/-- ITS FALSE NEIGHBOUR: 'it returns false'. Refute it at one input. -/
def fnTouchesWrong : ChangeSpec := { name := "fnTouches", fn := fun _ => fun
  | [d1, d2] => { results := [.lit (.bool false)], args := [d1, d2] }
  | _ => none }
def FnTouchesWrongFalsely : Prop := fnTouchesRow.holds Try.pinned (OpenSpec.ofChange fnTouchesWrong)

/-- 'laws.FnPairs': WHATEVER THE INPUT: true; the input reads as it did. -/
def fnPairsSpec : ChangeSpec := { name := "fnPairs", fn := fun _ => fun
  | [d1, d2] => { results := [.lit (.bool true)], args := [d1, d2] }
  | _ => none }
def fnPairsRow : OpenClaim := { program := "ytdnhdfnghkkncaa", sum := "d7e8a01db6067825ebefe0565ef0d1440e159809ca5e13756cc6094a69d4499e", func := "loop.example/g01268/laws.FnPairs", spec := "fnPairs", inPlace := ["math.sqrt", "math.archFloor", "math.Float64bits", "math.Float64frombits", "math.archTrunc"], unfollowed := true, recurses := true, apart := false }
def FnPairsSaid : Prop := fnPairsRow.holds Try.pinned (OpenSpec.ofChange fnPairsSpec)

/-- ITS FALSE NEIGHBOUR: 'it returns false'. Refute it at one input. -/
def fnPairsWrong : ChangeSpec := { name := "fnPairs", fn := fun _ => fun
  | [d1, d2] => { results := [.lit (.bool false)], args := [d1, d2] }
  | _ => none }
def FnPairsWrongFalsely : Prop := fnPairsRow.holds Try.pinned (OpenSpec.ofChange fnPairsWrong)

/-- 'laws.FnHeaps': WHATEVER THE INPUT: true; the input reads as it did. -/
def fnHeapsSpec : ChangeSpec := { name := "fnHeaps", fn := fun _ => fun
  | [d1, d2] => { results := [.lit (.bool true)], args := [d1, d2] }
  | _ => none }
def fnHeapsRow : OpenClaim := { program := "ytdnhdfnghkkncaa", sum := "d7e8a01db6067825ebefe0565ef0d1440e159809ca5e13756cc6094a69d4499e", func := "loop.example/g01268/laws.FnHeaps", spec := "fnHeaps", inPlace := ["math.Float32bits", "math.sqrt"], unfollowed := true, recurses := true, apart := false }
def FnHeapsSaid : Prop := fnHeapsRow.holds Try.pinned (OpenSpec.ofChange fnHeapsSpec)

/-- ITS FALSE NEIGHBOUR: 'it returns false'. Refute it at one input. -/
def fnHeapsWrong : ChangeSpec := { name := "fnHeaps", fn := fun _ => fun
  | [d1, d2] => { results := [.lit (.bool false)], args := [d1, d2] }
  | _ => none }
def FnHeapsWrongFalsely : Prop := fnHeapsRow.holds Try.pinned (OpenSpec.ofChange fnHeapsWrong)

/-- 'laws.FnWalls': WHATEVER THE INPUT: true; the input reads as it did. -/
def fnWallsSpec : ChangeSpec := { name := "fnWalls", fn := fun _ => fun
  | [d1, d2] => { results := [.lit (.bool true)], args := [d1, d2] }
  | _ => none }
def fnWallsRow : OpenClaim := { program := "ytdnhdfnghkkncaa", sum := "d7e8a01db6067825ebefe0565ef0d1440e159809ca5e13756cc6094a69d4499e", func := "loop.example/g01268/laws.FnWalls", spec := "fnWalls", inPlace := ["math.sqrt", "math.Float64frombits", "math.Float64bits", "math.Float32bits"], unfollowed := true, recurses := true, apart := false }
def FnWallsSaid : Prop := fnWallsRow.holds Try.pinned (OpenSpec.ofChange fnWallsSpec)

/-- ITS FALSE NEIGHBOUR: 'it returns false'. Refute it at one input. -/
def fnWallsWrong : ChangeSpec := { name := "fnWalls", fn := fun _ => fun
  | [d1, d2] => { results := [.lit (.bool false)], args := [d1, d2] }
  | _ => none }
def FnWallsWrongFalsely : Prop := fnWallsRow.holds Try.pinned (OpenSpec.ofChange fnWallsWrong)

/-- 'laws.FnViews': WHATEVER THE INPUT: true; the input reads as it did. -/
def fnViewsSpec : ChangeSpec := { name := "fnViews", fn := fun _ => fun
  | [d1, d2] => { results := [.lit (.bool true)], args := [d1, d2] }
  | _ => none }
def fnViewsRow : OpenClaim := { program := "ytdnhdfnghkkncaa", sum := "d7e8a01db6067825ebefe0565ef0d1440e159809ca5e13756cc6094a69d4499e", func := "loop.example/g01268/laws.FnViews", spec := "fnViews", inPlace := ["math.sqrt", "math.archFloor", "math.Float64bits", "math.Float64frombits", "math.archTrunc"], unfollowed := true, recurses := true, apart := false }
def FnViewsSaid : Prop := fnViewsRow.holds Try.pinned (OpenSpec.ofChange fnViewsSpec)

/-- ITS FALSE NEIGHBOUR: 'it returns false'. Refute it at one input. -/
def fnViewsWrong : ChangeSpec := { name := "fnViews", fn := fun _ => fun
  | [d1, d2] => { results := [.lit (.bool false)], args := [d1, d2] }
  | _ => none }
def FnViewsWrongFalsely : Prop := fnViewsRow.holds Try.pinned (OpenSpec.ofChange fnViewsWrong)

/-- 'laws.FnLinks': WHATEVER THE INPUT: true; the input reads as it did. -/
def fnLinksSpec : ChangeSpec := { name := "fnLinks", fn := fun _ => fun
  | [d1, d2] => { results := [.lit (.bool true)], args := [d1, d2] }
  | _ => none }
def fnLinksRow : OpenClaim := { program := "ytdnhdfnghkkncaa", sum := "d7e8a01db6067825ebefe0565ef0d1440e159809ca5e13756cc6094a69d4499e", func := "loop.example/g01268/laws.FnLinks", spec := "fnLinks", inPlace := ["math.sqrt", "math.archFloor", "math.Float64bits", "math.Float64frombits", "math.archTrunc"], unfollowed := true, recurses := true, apart := false }
def FnLinksSaid : Prop := fnLinksRow.holds Try.pinned (OpenSpec.ofChange fnLinksSpec)

/-- ITS FALSE NEIGHBOUR: 'it returns false'. Refute it at one input. -/
def fnLinksWrong : ChangeSpec := { name := "fnLinks", fn := fun _ => fun
  | [d1, d2] => { results := [.lit (.bool false)], args := [d1, d2] }
  | _ => none }
def FnLinksWrongFalsely : Prop := fnLinksRow.holds Try.pinned (OpenSpec.ofChange fnLinksWrong)

/-- 'laws.FnExactNewDesk': WHATEVER THE INPUT: true; the input reads as it did. -/
def fnExactNewDeskSpec : ChangeSpec := { name := "fnExactNewDesk", fn := fun _ => fun
  | [] => { results := [.lit (.bool true)], args := [] }
  | _ => none }
def fnExactNewDeskRow : OpenClaim := { program := "ytdnhdfnghkkncaa", sum := "d7e8a01db6067825ebefe0565ef0d1440e159809ca5e13756cc6094a69d4499e", func := "loop.example/g01268/laws.FnExactNewDesk", spec := "fnExactNewDesk", unfollowed := true, recurses := true, apart := false }
def FnExactNewDeskSaid : Prop := fnExactNewDeskRow.holds Try.pinned (OpenSpec.ofChange fnExactNewDeskSpec)

/-- ITS FALSE NEIGHBOUR: 'it returns false'. Refute it at one input. -/
def fnExactNewDeskWrong : ChangeSpec := { name := "fnExactNewDesk", fn := fun _ => fun
  | [] => { results := [.lit (.bool false)], args := [] }
  | _ => none }
def FnExactNewDeskWrongFalsely : Prop := fnExactNewDeskRow.holds Try.pinned (OpenSpec.ofChange fnExactNewDeskWrong)

/-- 'laws.FnPushes': WHATEVER THE INPUT: true; the input reads as it did. -/
def fnPushesSpec : ChangeSpec := { name := "fnPushes", fn := fun _ => fun
  | [d1, d2] => { results := [.lit (.bool true)], args := [d1, d2] }
  | _ => none }
def fnPushesRow : OpenClaim := { program := "ytdnhdfnghkkncaa", sum := "d7e8a01db6067825ebefe0565ef0d1440e159809ca5e13756cc6094a69d4499e", func := "loop.example/g01268/laws.FnPushes", spec := "fnPushes", inPlace := ["math.sqrt", "math.Float32bits"], unfollowed := true, recurses := true, apart := false }
def FnPushesSaid : Prop := fnPushesRow.holds Try.pinned (OpenSpec.ofChange fnPushesSpec)

/-- ITS FALSE NEIGHBOUR: 'it returns false'. Refute it at one input. -/
def fnPushesWrong : ChangeSpec := { name := "fnPushes", fn := fun _ => fun
  | [d1, d2] => { results := [.lit (.bool false)], args := [d1, d2] }
  | _ => none }
def FnPushesWrongFalsely : Prop := fnPushesRow.holds Try.pinned (OpenSpec.ofChange fnPushesWrong)

/- THE SECOND FORM. 'bulk': how many values and letters a reading holds, each counted each time it is reached (what is shared counts as often as it is met; a slice's spare places count too). A statement '..UptoSaid' is the law's where the arguments, and the package variables that the reading takes, are together of bulk at most 1048576: NARROWER than '..Said'. Prove '..Said' where nothing that the law and all that it calls make is longer than what came in: it says more and counts as full. Else prove '..UptoSaid'. A law counts once. -/
mutual
def uptoBulk {H : Type} : DataW H → Nat
  | .lit (.string bytes) => bytes.length + 1
  | .lit _ => 1
  | .nil => 1
  | .ptr d => uptoBulk d + 1
  | .slice elems spare => uptoBulkAll elems + uptoBulkAll spare + 1
  | .agg parts => uptoBulkAll parts + 1
  | .iface _ d => uptoBulk d + 1
  | .map entries => uptoBulkEntries entries + 1
  | .held _ => 1
def uptoBulkAll {H : Type} : List (DataW H) → Nat
  | [] => 0
  | d :: r => uptoBulk d + uptoBulkAll r
def uptoBulkEntries {H : Type} : List (Lit × DataW H) → Nat
  | [] => 0
  | x :: r => uptoBulkEntry x + uptoBulkEntries r
def uptoBulkEntry {H : Type} : Lit × DataW H → Nat
  | (.string bytes, d) => bytes.length + uptoBulk d + 1
  | (_, d) => uptoBulk d + 1
 end
def uptoSmall : (H : Type) → List (DataW H) → Bool := fun _ ds => decide (uptoBulkAll ds ≤ 1048576)
def OpenSpec.upto (s : _root_.Go.ChangeSpec) : _root_.Go.OpenSpec := { _root_.Go.OpenSpec.ofChange s with cond := some uptoSmall }

/-- 'laws.FnBeyond', WHERE WHAT IT READS IS OF BULK AT MOST 1048576: true; the input reads as it did. -/
def fnBeyondUptoRow : OpenClaim := { program := "ytdnhdfnghkkncaa", sum := "d7e8a01db6067825ebefe0565ef0d1440e159809ca5e13756cc6094a69d4499e", func := "loop.example/g01268/laws.FnBeyond", spec := "fnBeyond", unfollowed := true, recurses := true, apart := false, narrowed := true }
def FnBeyondUptoSaid : Prop := fnBeyondUptoRow.holds Try.pinned (OpenSpec.upto fnBeyondSpec)

/-- 'laws.FnPieces', WHERE WHAT IT READS IS OF BULK AT MOST 1048576: true; the input reads as it did. -/
def fnPiecesUptoRow : OpenClaim := { program := "ytdnhdfnghkkncaa", sum := "d7e8a01db6067825ebefe0565ef0d1440e159809ca5e13756cc6094a69d4499e", func := "loop.example/g01268/laws.FnPieces", spec := "fnPieces", inPlace := ["math.sqrt"], unfollowed := true, recurses := true, apart := false, narrowed := true }
def FnPiecesUptoSaid : Prop := fnPiecesUptoRow.holds Try.pinned (OpenSpec.upto fnPiecesSpec)

/-- 'laws.FnFlown', WHERE WHAT IT READS IS OF BULK AT MOST 1048576: true; the input reads as it did. -/
def fnFlownUptoRow : OpenClaim := { program := "ytdnhdfnghkkncaa", sum := "d7e8a01db6067825ebefe0565ef0d1440e159809ca5e13756cc6094a69d4499e", func := "loop.example/g01268/laws.FnFlown", spec := "fnFlown", inPlace := ["math.sqrt"], unfollowed := true, recurses := true, apart := false, narrowed := true }
def FnFlownUptoSaid : Prop := fnFlownUptoRow.holds Try.pinned (OpenSpec.upto fnFlownSpec)

/-- 'laws.FnTouches', WHERE WHAT IT READS IS OF BULK AT MOST 1048576: true; the input reads as it did. -/
def fnTouchesUptoRow : OpenClaim := { program := "ytdnhdfnghkkncaa", sum := "d7e8a01db6067825ebefe0565ef0d1440e159809ca5e13756cc6094a69d4499e", func := "loop.example/g01268/laws.FnTouches", spec := "fnTouches", inPlace := ["math.sqrt"], unfollowed := true, recurses := true, apart := false, narrowed := true }
def FnTouchesUptoSaid : Prop := fnTouchesUptoRow.holds Try.pinned (OpenSpec.upto fnTouchesSpec)

/-- 'laws.FnPairs', WHERE WHAT IT READS IS OF BULK AT MOST 1048576: true; the input reads as it did. -/
def fnPairsUptoRow : OpenClaim := { program := "ytdnhdfnghkkncaa", sum := "d7e8a01db6067825ebefe0565ef0d1440e159809ca5e13756cc6094a69d4499e", func := "loop.example/g01268/laws.FnPairs", spec := "fnPairs", inPlace := ["math.sqrt", "math.archFloor", "math.Float64bits", "math.Float64frombits", "math.archTrunc"], unfollowed := true, recurses := true, apart := false, narrowed := true }
def FnPairsUptoSaid : Prop := fnPairsUptoRow.holds Try.pinned (OpenSpec.upto fnPairsSpec)

/-- 'laws.FnHeaps', WHERE WHAT IT READS IS OF BULK AT MOST 1048576: true; the input reads as it did. -/
def fnHeapsUptoRow : OpenClaim := { program := "ytdnhdfnghkkncaa", sum := "d7e8a01db6067825ebefe0565ef0d1440e159809ca5e13756cc6094a69d4499e", func := "loop.example/g01268/laws.FnHeaps", spec := "fnHeaps", inPlace := ["math.Float32bits", "math.sqrt"], unfollowed := true, recurses := true, apart := false, narrowed := true }
def FnHeapsUptoSaid : Prop := fnHeapsUptoRow.holds Try.pinned (OpenSpec.upto fnHeapsSpec)

/-- 'laws.FnWalls', WHERE WHAT IT READS IS OF BULK AT MOST 1048576: true; the input reads as it did. -/
def fnWallsUptoRow : OpenClaim := { program := "ytdnhdfnghkkncaa", sum := "d7e8a01db6067825ebefe0565ef0d1440e159809ca5e13756cc6094a69d4499e", func := "loop.example/g01268/laws.FnWalls", spec := "fnWalls", inPlace := ["math.sqrt", "math.Float64frombits", "math.Float64bits", "math.Float32bits"], unfollowed := true, recurses := true, apart := false, narrowed := true }
def FnWallsUptoSaid : Prop := fnWallsUptoRow.holds Try.pinned (OpenSpec.upto fnWallsSpec)

/-- 'laws.FnViews', WHERE WHAT IT READS IS OF BULK AT MOST 1048576: true; the input reads as it did. -/
def fnViewsUptoRow : OpenClaim := { program := "ytdnhdfnghkkncaa", sum := "d7e8a01db6067825ebefe0565ef0d1440e159809ca5e13756cc6094a69d4499e", func := "loop.example/g01268/laws.FnViews", spec := "fnViews", inPlace := ["math.sqrt", "math.archFloor", "math.Float64bits", "math.Float64frombits", "math.archTrunc"], unfollowed := true, recurses := true, apart := false, narrowed := true }
def FnViewsUptoSaid : Prop := fnViewsUptoRow.holds Try.pinned (OpenSpec.upto fnViewsSpec)

/-- 'laws.FnLinks', WHERE WHAT IT READS IS OF BULK AT MOST 1048576: true; the input reads as it did. -/
def fnLinksUptoRow : OpenClaim := { program := "ytdnhdfnghkkncaa", sum := "d7e8a01db6067825ebefe0565ef0d1440e159809ca5e13756cc6094a69d4499e", func := "loop.example/g01268/laws.FnLinks", spec := "fnLinks", inPlace := ["math.sqrt", "math.archFloor", "math.Float64bits", "math.Float64frombits", "math.archTrunc"], unfollowed := true, recurses := true, apart := false, narrowed := true }
def FnLinksUptoSaid : Prop := fnLinksUptoRow.holds Try.pinned (OpenSpec.upto fnLinksSpec)

/-- 'laws.FnExactNewDesk', WHERE WHAT IT READS IS OF BULK AT MOST 1048576: true; the input reads as it did. -/
def fnExactNewDeskUptoRow : OpenClaim := { program := "ytdnhdfnghkkncaa", sum := "d7e8a01db6067825ebefe0565ef0d1440e159809ca5e13756cc6094a69d4499e", func := "loop.example/g01268/laws.FnExactNewDesk", spec := "fnExactNewDesk", unfollowed := true, recurses := true, apart := false, narrowed := true }
def FnExactNewDeskUptoSaid : Prop := fnExactNewDeskUptoRow.holds Try.pinned (OpenSpec.upto fnExactNewDeskSpec)

/-- 'laws.FnPushes', WHERE WHAT IT READS IS OF BULK AT MOST 1048576: true; the input reads as it did. -/
def fnPushesUptoRow : OpenClaim := { program := "ytdnhdfnghkkncaa", sum := "d7e8a01db6067825ebefe0565ef0d1440e159809ca5e13756cc6094a69d4499e", func := "loop.example/g01268/laws.FnPushes", spec := "fnPushes", inPlace := ["math.sqrt", "math.Float32bits"], unfollowed := true, recurses := true, apart := false, narrowed := true }
def FnPushesUptoSaid : Prop := fnPushesUptoRow.holds Try.pinned (OpenSpec.upto fnPushesSpec)

end Rows
end Go.Proofs.Ytdnhdfnghkkncaa
