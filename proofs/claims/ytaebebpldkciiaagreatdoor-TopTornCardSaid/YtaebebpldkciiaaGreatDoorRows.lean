/-
  NARROWER THAN 'FOR EVERY INPUT', by the rows' own cells (each row's printed sentence says how): TopCentre: laid · TopHolds: laid · SeasonPicks: laid · SeasonSafe: laid · SeasonCounts: laid · TopPromise: laid · TopTorn: laid.
  DERIVED. THE GIVEN ROWS OF THIS SEAT. 7 by the template 'for every input the law returns true; each argument reads behind the call as it read before'; 0 by the template 'total and deterministic' (their statements: YtaebebpldkciiaaGreatDoorTotals.lean).
  GIVEN WITH THE SEED: the statements are not yours to turn. If you find one false, say at which input.
  Laid BY PROGRAM, IN A SANDBOX (cutbox-rows.mjs): the forced cells as the released guide's own fill.sh prints them over the translation 7b2d474a506b5970… (all of the seat's roots in one cut). By AI agents, Wed Nov 11 2026. No macro, syntax, notation, axiom, sorry.
-/
import Derived.Test.YtaebebpldkciiaaGreatDoorChecked
import GoSem.PinnedTables
import GoSem.Claim
import GoSem.ClaimJoined
import GoSem.ClaimMapViews
import Derived.JoinedTies
import Derived.KernelRfl
namespace Go.Proofs.YtaebebpldkciiaaGreatDoor
/- THE CELL 'sum', in the pinned program and in every row, IS THE sha256 OF THE DUMP (.gsa) THAT YtaebebpldkciiaaGreatDoorProg.lean LOADS. Nothing in Lean hashes anything: it is a label: what it is worth is what the hold of that sum in a sandbox is worth. -/
noncomputable def Tryz.pinned : Pinned := { name := "ytaebebpldkciiaagreatdoor", sum := "7b2d474a506b5970b078006a9a72b8d20f034b1b068a84d25c3d9855015f8676", checked := Tryz.checked }
namespace Rows
def none {H : Type} : Left H := { results := [], args := [] }

/- WHAT THE LISTED PACKAGE-LEVEL VARIABLES READ AS WHEN THE CALL BEGINS. Each datum BY PROGRAM (the guide's laid-datum.mjs) off the statement by which the dump's own 'gosem.cut.vars' lays the variable. In a bare row this is a premise. The card (YtaebebpldkciiaaGreatDoorCards.lean) ties it to the program's text. -/
def laid_unicode_utf8_acceptRanges {H : Type} : DataW H := .agg [.agg [.lit (.int .u8 128), .lit (.int .u8 191)], .agg [.lit (.int .u8 160), .lit (.int .u8 191)], .agg [.lit (.int .u8 128), .lit (.int .u8 159)], .agg [.lit (.int .u8 144), .lit (.int .u8 191)], .agg [.lit (.int .u8 128), .lit (.int .u8 143)], .agg [.lit (.int .u8 0), .lit (.int .u8 0)], .agg [.lit (.int .u8 0), .lit (.int .u8 0)], .agg [.lit (.int .u8 0), .lit (.int .u8 0)], .agg [.lit (.int .u8 0), .lit (.int .u8 0)], .agg [.lit (.int .u8 0), .lit (.int .u8 0)], .agg [.lit (.int .u8 0), .lit (.int .u8 0)], .agg [.lit (.int .u8 0), .lit (.int .u8 0)], .agg [.lit (.int .u8 0), .lit (.int .u8 0)], .agg [.lit (.int .u8 0), .lit (.int .u8 0)], .agg [.lit (.int .u8 0), .lit (.int .u8 0)], .agg [.lit (.int .u8 0), .lit (.int .u8 0)]]
def laid_math_sin {H : Type} : DataW H := .agg [.lit (.float .f64 4460209587652500685), .lit (.float .f64 13716528389658582877), .lit (.float .f64 4523617212962785441), .lit (.float .f64 13774824197404483331), .lit (.float .f64 4575957461383575504), .lit (.float .f64 13818544856648471880)]
def laid_math_cos {H : Type} : DataW H := .agg [.lit (.float .f64 13666448263388469915), .lit (.float .f64 4477121864728985349), .lit (.float .f64 13732177093698800582), .lit (.float .f64 4537941361668146421), .lit (.float .f64 13787419979223748497), .lit (.float .f64 4586165620538955083)]
def laid_math_mPi4 {H : Type} : DataW H := .agg [.lit (.int .u64 1), .lit (.int .u64 5040379952546458195), .lit (.int .u64 17892431488136887169), .lit (.int .u64 13169980181085364355), .lit (.int .u64 18204331823439776451), .lit (.int .u64 7946843935494350272), .lit (.int .u64 905889640498799673), .lit (.int .u64 18175356263134875261), .lit (.int .u64 15061281708168349961), .lit (.int .u64 15220161563773041794), .lit (.int .u64 8296664548579374057), .lit (.int .u64 4109744767560208502), .lit (.int .u64 4607516669194743839), .lit (.int .u64 16023283104648321598), .lit (.int .u64 15739233654134936430), .lit (.int .u64 11424645774684705882), .lit (.int .u64 16883842788696515318), .lit (.int .u64 8795094592981902804), .lit (.int .u64 15561835991111744016), .lit (.int .u64 12395701187267450711)]
def laid_skyway_centre_kinds {H : Type} : DataW H := .agg [.lit (.string [102, 105, 108, 101]), .lit (.string [111, 102, 102, 101, 114]), .lit (.string [97, 99, 99, 101, 112, 116]), .lit (.string [99, 108, 101, 97, 114]), .lit (.string [104, 101, 97, 114]), .lit (.string [114, 101, 102, 117, 115, 101]), .lit (.string [101, 110, 100])]
/-- One of Go's own tables, pinned by name: the form's constant. -/
def laid_unicode_utf8_first : DataW Unit := Go.Pinned.utf8First
def laid_math_bits_deBruijn32tab {H : Type} : DataW H := .agg [.lit (.int .u8 0), .lit (.int .u8 1), .lit (.int .u8 28), .lit (.int .u8 2), .lit (.int .u8 29), .lit (.int .u8 14), .lit (.int .u8 24), .lit (.int .u8 3), .lit (.int .u8 30), .lit (.int .u8 22), .lit (.int .u8 20), .lit (.int .u8 15), .lit (.int .u8 25), .lit (.int .u8 17), .lit (.int .u8 4), .lit (.int .u8 8), .lit (.int .u8 31), .lit (.int .u8 27), .lit (.int .u8 13), .lit (.int .u8 23), .lit (.int .u8 21), .lit (.int .u8 19), .lit (.int .u8 16), .lit (.int .u8 7), .lit (.int .u8 26), .lit (.int .u8 12), .lit (.int .u8 18), .lit (.int .u8 6), .lit (.int .u8 11), .lit (.int .u8 5), .lit (.int .u8 10), .lit (.int .u8 9)]
def laid_math_bits_deBruijn64tab {H : Type} : DataW H := .agg [.lit (.int .u8 0), .lit (.int .u8 1), .lit (.int .u8 56), .lit (.int .u8 2), .lit (.int .u8 57), .lit (.int .u8 49), .lit (.int .u8 28), .lit (.int .u8 3), .lit (.int .u8 61), .lit (.int .u8 58), .lit (.int .u8 42), .lit (.int .u8 50), .lit (.int .u8 38), .lit (.int .u8 29), .lit (.int .u8 17), .lit (.int .u8 4), .lit (.int .u8 62), .lit (.int .u8 47), .lit (.int .u8 59), .lit (.int .u8 36), .lit (.int .u8 45), .lit (.int .u8 43), .lit (.int .u8 51), .lit (.int .u8 22), .lit (.int .u8 53), .lit (.int .u8 39), .lit (.int .u8 33), .lit (.int .u8 30), .lit (.int .u8 24), .lit (.int .u8 18), .lit (.int .u8 12), .lit (.int .u8 5), .lit (.int .u8 63), .lit (.int .u8 55), .lit (.int .u8 48), .lit (.int .u8 27), .lit (.int .u8 60), .lit (.int .u8 41), .lit (.int .u8 37), .lit (.int .u8 16), .lit (.int .u8 46), .lit (.int .u8 35), .lit (.int .u8 44), .lit (.int .u8 21), .lit (.int .u8 52), .lit (.int .u8 32), .lit (.int .u8 23), .lit (.int .u8 11), .lit (.int .u8 54), .lit (.int .u8 26), .lit (.int .u8 40), .lit (.int .u8 15), .lit (.int .u8 34), .lit (.int .u8 20), .lit (.int .u8 31), .lit (.int .u8 10), .lit (.int .u8 25), .lit (.int .u8 14), .lit (.int .u8 19), .lit (.int .u8 9), .lit (.int .u8 13), .lit (.int .u8 8), .lit (.int .u8 7), .lit (.int .u8 6)]
def laid_internal_strconv_uint64pow10 {H : Type} : DataW H := .agg [.lit (.int .u64 1), .lit (.int .u64 10), .lit (.int .u64 100), .lit (.int .u64 1000), .lit (.int .u64 10000), .lit (.int .u64 100000), .lit (.int .u64 1000000), .lit (.int .u64 10000000), .lit (.int .u64 100000000), .lit (.int .u64 1000000000), .lit (.int .u64 10000000000), .lit (.int .u64 100000000000), .lit (.int .u64 1000000000000), .lit (.int .u64 10000000000000), .lit (.int .u64 100000000000000), .lit (.int .u64 1000000000000000), .lit (.int .u64 10000000000000000), .lit (.int .u64 100000000000000000), .lit (.int .u64 1000000000000000000), .lit (.int .u64 10000000000000000000)]
def laid_strconv_ErrRange {H : Type} : DataW H := .iface "*errors.errorString" (.ptr (.agg [.lit (.string [118, 97, 108, 117, 101, 32, 111, 117, 116, 32, 111, 102, 32, 114, 97, 110, 103, 101])]))
def laid_strconv_ErrSyntax {H : Type} : DataW H := .iface "*errors.errorString" (.ptr (.agg [.lit (.string [105, 110, 118, 97, 108, 105, 100, 32, 115, 121, 110, 116, 97, 120])]))

/-- 'skywaytop.TopCentre': WHATEVER THE INPUT: true; the input reads as it did. -/
def topCentreSpec : ChangeSpec := { name := "topCentre", fn := fun _ => fun
  | [d1, d2, d3] => { results := [.lit (.bool true)], args := [d1, d2, d3] }
  | _ => none }
def topCentreRow : OpenClaim := { program := "ytaebebpldkciiaagreatdoor", sum := "7b2d474a506b5970b078006a9a72b8d20f034b1b068a84d25c3d9855015f8676", func := "skyway/skywaytop.TopCentre", spec := "topCentre", inPlace := ["slices.overlaps[skyway/api.OwnerEntry]", "slices.overlaps[skyway/api.CentreFlight]", "internal/bytealg.IndexByteString", "internal/bytealg.IndexString", "math.Float64bits", "math.Float64frombits", "math/bits.Add64"], unfollowed := true, recurses := true, named := ["skyway/centre.kinds", "unicode/utf8.first", "unicode/utf8.acceptRanges", "math._cos", "math._sin", "math.mPi4", "internal/bytealg.MaxLen"], apart := false, laid := [("unicode/utf8.acceptRanges", laid_unicode_utf8_acceptRanges), ("math._sin", laid_math_sin), ("math._cos", laid_math_cos), ("math.mPi4", laid_math_mPi4), ("skyway/centre.kinds", laid_skyway_centre_kinds), ("unicode/utf8.first", laid_unicode_utf8_first)] }
def TopCentreSaid : Prop := topCentreRow.holds Tryz.pinned (OpenSpec.ofChange topCentreSpec)

/-- ITS FALSE NEIGHBOUR: 'it returns false'. Refute it at one input. -/
def topCentreWrong : ChangeSpec := { name := "topCentre", fn := fun _ => fun
  | [d1, d2, d3] => { results := [.lit (.bool false)], args := [d1, d2, d3] }
  | _ => none }
def TopCentreWrongFalsely : Prop := topCentreRow.holds Tryz.pinned (OpenSpec.ofChange topCentreWrong)

/-- 'skywaytop.TopHolds': WHATEVER THE INPUT: true; the input reads as it did. -/
def topHoldsSpec : ChangeSpec := { name := "topHolds", fn := fun _ => fun
  | [d1, d2] => { results := [.lit (.bool true)], args := [d1, d2] }
  | _ => none }
def topHoldsRow : OpenClaim := { program := "ytaebebpldkciiaagreatdoor", sum := "7b2d474a506b5970b078006a9a72b8d20f034b1b068a84d25c3d9855015f8676", func := "skyway/skywaytop.TopHolds", spec := "topHolds", inPlace := ["slices.overlaps[skyway/api.OwnerEntry]", "slices.overlaps[skyway/api.CentreFlight]", "internal/bytealg.IndexByteString", "internal/bytealg.IndexString", "math.Float64bits", "math.Float64frombits", "math/bits.Add64"], unfollowed := true, recurses := true, named := ["skyway/centre.kinds", "unicode/utf8.first", "unicode/utf8.acceptRanges", "math._cos", "math._sin", "math.mPi4", "internal/bytealg.MaxLen"], apart := false, laid := [("unicode/utf8.acceptRanges", laid_unicode_utf8_acceptRanges), ("math._sin", laid_math_sin), ("math._cos", laid_math_cos), ("math.mPi4", laid_math_mPi4), ("skyway/centre.kinds", laid_skyway_centre_kinds), ("unicode/utf8.first", laid_unicode_utf8_first)] }
def TopHoldsSaid : Prop := topHoldsRow.holds Tryz.pinned (OpenSpec.ofChange topHoldsSpec)

/-- ITS FALSE NEIGHBOUR: 'it returns false'. Refute it at one input. -/
def topHoldsWrong : ChangeSpec := { name := "topHolds", fn := fun _ => fun
  | [d1, d2] => { results := [.lit (.bool false)], args := [d1, d2] }
  | _ => none }
def TopHoldsWrongFalsely : Prop := topHoldsRow.holds Tryz.pinned (OpenSpec.ofChange topHoldsWrong)

/-- 'skywaykeep4.SeasonPicks': WHATEVER THE INPUT: true; the input reads as it did. -/
def seasonPicksSpec : ChangeSpec := { name := "seasonPicks", fn := fun _ => fun
  | [d1, d2, d3, d4] => { results := [.lit (.bool true)], args := [d1, d2, d3, d4] }
  | _ => none }
def seasonPicksRow : OpenClaim := { program := "ytaebebpldkciiaagreatdoor", sum := "7b2d474a506b5970b078006a9a72b8d20f034b1b068a84d25c3d9855015f8676", func := "skyway/skywaykeep4.SeasonPicks", spec := "seasonPicks", inPlace := ["slices.overlaps[skyway/api.OwnerEntry]", "slices.overlaps[skyway/api.CentreFlight]", "internal/bytealg.IndexByteString", "internal/bytealg.IndexString", "math.Float64bits", "math.Float64frombits", "math/bits.Add64"], unfollowed := true, recurses := true, named := ["skyway/centre.kinds", "unicode/utf8.first", "unicode/utf8.acceptRanges", "math._cos", "math._sin", "math.mPi4", "internal/bytealg.MaxLen"], apart := false, laid := [("unicode/utf8.acceptRanges", laid_unicode_utf8_acceptRanges), ("math._sin", laid_math_sin), ("math._cos", laid_math_cos), ("math.mPi4", laid_math_mPi4), ("skyway/centre.kinds", laid_skyway_centre_kinds), ("unicode/utf8.first", laid_unicode_utf8_first)] }
def SeasonPicksSaid : Prop := seasonPicksRow.holds Tryz.pinned (OpenSpec.ofChange seasonPicksSpec)

/-- ITS FALSE NEIGHBOUR: 'it returns false'. Refute it at one input. -/
def seasonPicksWrong : ChangeSpec := { name := "seasonPicks", fn := fun _ => fun
  | [d1, d2, d3, d4] => { results := [.lit (.bool false)], args := [d1, d2, d3, d4] }
  | _ => none }
def SeasonPicksWrongFalsely : Prop := seasonPicksRow.holds Tryz.pinned (OpenSpec.ofChange seasonPicksWrong)

/-- 'skywaykeep4.SeasonSafe': WHATEVER THE INPUT: true; the input reads as it did. -/
def seasonSafeSpec : ChangeSpec := { name := "seasonSafe", fn := fun _ => fun
  | [d1, d2, d3] => { results := [.lit (.bool true)], args := [d1, d2, d3] }
  | _ => none }
def seasonSafeRow : OpenClaim := { program := "ytaebebpldkciiaagreatdoor", sum := "7b2d474a506b5970b078006a9a72b8d20f034b1b068a84d25c3d9855015f8676", func := "skyway/skywaykeep4.SeasonSafe", spec := "seasonSafe", inPlace := ["slices.overlaps[skyway/api.OwnerEntry]", "slices.overlaps[skyway/api.CentreFlight]", "internal/bytealg.IndexByteString", "internal/bytealg.IndexString", "math.Float64bits", "math.Float64frombits", "math/bits.Add64"], unfollowed := true, recurses := true, named := ["skyway/centre.kinds", "unicode/utf8.first", "unicode/utf8.acceptRanges", "math._cos", "math._sin", "math.mPi4", "internal/bytealg.MaxLen"], apart := false, laid := [("unicode/utf8.acceptRanges", laid_unicode_utf8_acceptRanges), ("math._sin", laid_math_sin), ("math._cos", laid_math_cos), ("math.mPi4", laid_math_mPi4), ("skyway/centre.kinds", laid_skyway_centre_kinds), ("unicode/utf8.first", laid_unicode_utf8_first)] }
def SeasonSafeSaid : Prop := seasonSafeRow.holds Tryz.pinned (OpenSpec.ofChange seasonSafeSpec)

/-- ITS FALSE NEIGHBOUR: 'it returns false'. Refute it at one input. -/
def seasonSafeWrong : ChangeSpec := { name := "seasonSafe", fn := fun _ => fun
  | [d1, d2, d3] => { results := [.lit (.bool false)], args := [d1, d2, d3] }
  | _ => none }
def SeasonSafeWrongFalsely : Prop := seasonSafeRow.holds Tryz.pinned (OpenSpec.ofChange seasonSafeWrong)

/-- 'skywaykeep4.SeasonCounts': WHATEVER THE INPUT: true; the input reads as it did. -/
def seasonCountsSpec : ChangeSpec := { name := "seasonCounts", fn := fun _ => fun
  | [d1, d2, d3] => { results := [.lit (.bool true)], args := [d1, d2, d3] }
  | _ => none }
def seasonCountsRow : OpenClaim := { program := "ytaebebpldkciiaagreatdoor", sum := "7b2d474a506b5970b078006a9a72b8d20f034b1b068a84d25c3d9855015f8676", func := "skyway/skywaykeep4.SeasonCounts", spec := "seasonCounts", inPlace := ["slices.overlaps[skyway/api.OwnerEntry]", "slices.overlaps[skyway/api.CentreFlight]", "internal/bytealg.IndexByteString", "internal/bytealg.IndexString", "math.Float64bits", "math.Float64frombits", "math/bits.Add64"], unfollowed := true, recurses := true, named := ["skyway/centre.kinds", "unicode/utf8.first", "unicode/utf8.acceptRanges", "math._cos", "math._sin", "math.mPi4", "internal/bytealg.MaxLen"], apart := false, laid := [("unicode/utf8.acceptRanges", laid_unicode_utf8_acceptRanges), ("math._sin", laid_math_sin), ("math._cos", laid_math_cos), ("math.mPi4", laid_math_mPi4), ("skyway/centre.kinds", laid_skyway_centre_kinds), ("unicode/utf8.first", laid_unicode_utf8_first)] }
def SeasonCountsSaid : Prop := seasonCountsRow.holds Tryz.pinned (OpenSpec.ofChange seasonCountsSpec)

/-- ITS FALSE NEIGHBOUR: 'it returns false'. Refute it at one input. -/
def seasonCountsWrong : ChangeSpec := { name := "seasonCounts", fn := fun _ => fun
  | [d1, d2, d3] => { results := [.lit (.bool false)], args := [d1, d2, d3] }
  | _ => none }
def SeasonCountsWrongFalsely : Prop := seasonCountsRow.holds Tryz.pinned (OpenSpec.ofChange seasonCountsWrong)

/-- 'skywaytop.TopPromise': WHATEVER THE INPUT: true; the input reads as it did. -/
def topPromiseSpec : ChangeSpec := { name := "topPromise", fn := fun _ => fun
  | [d1, d2] => { results := [.lit (.bool true)], args := [d1, d2] }
  | _ => none }
def topPromiseRow : OpenClaim := { program := "ytaebebpldkciiaagreatdoor", sum := "7b2d474a506b5970b078006a9a72b8d20f034b1b068a84d25c3d9855015f8676", func := "skyway/skywaytop.TopPromise", spec := "topPromise", inPlace := ["slices.overlaps[skyway/api.OwnerEntry]", "slices.overlaps[skyway/api.CentreFlight]", "internal/bytealg.IndexByteString", "internal/bytealg.IndexString", "math.Float64bits", "math.Float64frombits", "math/bits.Add64"], unfollowed := true, recurses := true, named := ["skyway/centre.kinds", "unicode/utf8.first", "unicode/utf8.acceptRanges", "math._cos", "math._sin", "math.mPi4", "internal/bytealg.MaxLen"], apart := false, laid := [("unicode/utf8.acceptRanges", laid_unicode_utf8_acceptRanges), ("math._sin", laid_math_sin), ("math._cos", laid_math_cos), ("math.mPi4", laid_math_mPi4), ("skyway/centre.kinds", laid_skyway_centre_kinds), ("unicode/utf8.first", laid_unicode_utf8_first)] }
def TopPromiseSaid : Prop := topPromiseRow.holds Tryz.pinned (OpenSpec.ofChange topPromiseSpec)

/-- ITS FALSE NEIGHBOUR: 'it returns false'. Refute it at one input. -/
def topPromiseWrong : ChangeSpec := { name := "topPromise", fn := fun _ => fun
  | [d1, d2] => { results := [.lit (.bool false)], args := [d1, d2] }
  | _ => none }
def TopPromiseWrongFalsely : Prop := topPromiseRow.holds Tryz.pinned (OpenSpec.ofChange topPromiseWrong)

/-- 'skywaytop.TopTorn': WHATEVER THE INPUT: true; the input reads as it did. -/
def topTornSpec : ChangeSpec := { name := "topTorn", fn := fun _ => fun
  | [d1, d2, d3] => { results := [.lit (.bool true)], args := [d1, d2, d3] }
  | _ => none }
def topTornRow : OpenClaim := { program := "ytaebebpldkciiaagreatdoor", sum := "7b2d474a506b5970b078006a9a72b8d20f034b1b068a84d25c3d9855015f8676", func := "skyway/skywaytop.TopTorn", spec := "topTorn", inPlace := ["slices.overlaps[skyway/api.OwnerEntry]", "slices.overlaps[skyway/api.CentreFlight]", "internal/bytealg.IndexByteString", "internal/bytealg.IndexString", "math.Float64bits", "math.Float64frombits", "math/bits.Add64", "internal/bytealg.abigen_runtime_cmpstring", "slices.overlaps[skyway/api.SnapshotRow]"], unfollowed := true, recurses := true, named := ["skyway/centre.kinds", "unicode/utf8.first", "unicode/utf8.acceptRanges", "math._cos", "math._sin", "math.mPi4", "internal/strconv.uint64pow10", "math/bits.deBruijn32tab", "math/bits.deBruijn64tab", "internal/bytealg.MaxLen", "strconv.ErrSyntax", "strconv.ErrRange"], apart := false, laid := [("math/bits.deBruijn32tab", laid_math_bits_deBruijn32tab), ("math/bits.deBruijn64tab", laid_math_bits_deBruijn64tab), ("internal/strconv.uint64pow10", laid_internal_strconv_uint64pow10), ("unicode/utf8.acceptRanges", laid_unicode_utf8_acceptRanges), ("math._sin", laid_math_sin), ("math._cos", laid_math_cos), ("math.mPi4", laid_math_mPi4), ("strconv.ErrRange", laid_strconv_ErrRange), ("strconv.ErrSyntax", laid_strconv_ErrSyntax), ("skyway/centre.kinds", laid_skyway_centre_kinds), ("unicode/utf8.first", laid_unicode_utf8_first)] }
def TopTornSaid : Prop := topTornRow.holds Tryz.pinned (OpenSpec.ofChange topTornSpec)

/-- ITS FALSE NEIGHBOUR: 'it returns false'. Refute it at one input. -/
def topTornWrong : ChangeSpec := { name := "topTorn", fn := fun _ => fun
  | [d1, d2, d3] => { results := [.lit (.bool false)], args := [d1, d2, d3] }
  | _ => none }
def TopTornWrongFalsely : Prop := topTornRow.holds Tryz.pinned (OpenSpec.ofChange topTornWrong)

/- THE SECOND FORM. 'bulk': how many values and letters a reading holds, each counted each time it is reached (what is shared counts as often as it is met; a slice's spare places count too). A statement '..UptoSaid' is the law's where the arguments, and the package variables that the reading takes, are together of bulk at most 1048576: NARROWER than '..Said'. Prove '..Said' where nothing that the law and all that it calls make is longer than what came in: it says more and counts as full. Else prove '..UptoSaid'. A law counts once. -/
mutual
def uptoBulk {H : Type} : DataW H → Nat
  | .lit (.string bytes) => bytes.length + 1
  | .lit _ => 1
  | .nil => 1
  | .ptr d => uptoBulk d + 1
  | .slice elems spare => uptoBulkAll elems + uptoBulkAll spare + 1
  | .agg parts => uptoBulkAll parts + 1
  | .iface _ d => uptoBulk d + 1
  | .map entries => uptoBulkEntries entries + 1
  | .held _ => 1
def uptoBulkAll {H : Type} : List (DataW H) → Nat
  | [] => 0
  | d :: r => uptoBulk d + uptoBulkAll r
def uptoBulkEntries {H : Type} : List (Lit × DataW H) → Nat
  | [] => 0
  | x :: r => uptoBulkEntry x + uptoBulkEntries r
def uptoBulkEntry {H : Type} : Lit × DataW H → Nat
  | (.string bytes, d) => bytes.length + uptoBulk d + 1
  | (_, d) => uptoBulk d + 1
 end
def uptoSmall : (H : Type) → List (DataW H) → Bool := fun _ ds => decide (uptoBulkAll ds ≤ 1048576)
def OpenSpec.upto (s : _root_.Go.ChangeSpec) : _root_.Go.OpenSpec := { _root_.Go.OpenSpec.ofChange s with cond := some uptoSmall }

/-- 'skywaytop.TopCentre', WHERE WHAT IT READS IS OF BULK AT MOST 1048576: true; the input reads as it did. -/
def topCentreUptoRow : OpenClaim := { program := "ytaebebpldkciiaagreatdoor", sum := "7b2d474a506b5970b078006a9a72b8d20f034b1b068a84d25c3d9855015f8676", func := "skyway/skywaytop.TopCentre", spec := "topCentre", inPlace := ["slices.overlaps[skyway/api.OwnerEntry]", "slices.overlaps[skyway/api.CentreFlight]", "internal/bytealg.IndexByteString", "internal/bytealg.IndexString", "math.Float64bits", "math.Float64frombits", "math/bits.Add64"], unfollowed := true, recurses := true, named := ["skyway/centre.kinds", "unicode/utf8.first", "unicode/utf8.acceptRanges", "math._cos", "math._sin", "math.mPi4", "internal/bytealg.MaxLen"], apart := false, laid := [("unicode/utf8.acceptRanges", laid_unicode_utf8_acceptRanges), ("math._sin", laid_math_sin), ("math._cos", laid_math_cos), ("math.mPi4", laid_math_mPi4), ("skyway/centre.kinds", laid_skyway_centre_kinds), ("unicode/utf8.first", laid_unicode_utf8_first)], narrowed := true }
def TopCentreUptoSaid : Prop := topCentreUptoRow.holds Tryz.pinned (OpenSpec.upto topCentreSpec)

/-- 'skywaytop.TopHolds', WHERE WHAT IT READS IS OF BULK AT MOST 1048576: true; the input reads as it did. -/
def topHoldsUptoRow : OpenClaim := { program := "ytaebebpldkciiaagreatdoor", sum := "7b2d474a506b5970b078006a9a72b8d20f034b1b068a84d25c3d9855015f8676", func := "skyway/skywaytop.TopHolds", spec := "topHolds", inPlace := ["slices.overlaps[skyway/api.OwnerEntry]", "slices.overlaps[skyway/api.CentreFlight]", "internal/bytealg.IndexByteString", "internal/bytealg.IndexString", "math.Float64bits", "math.Float64frombits", "math/bits.Add64"], unfollowed := true, recurses := true, named := ["skyway/centre.kinds", "unicode/utf8.first", "unicode/utf8.acceptRanges", "math._cos", "math._sin", "math.mPi4", "internal/bytealg.MaxLen"], apart := false, laid := [("unicode/utf8.acceptRanges", laid_unicode_utf8_acceptRanges), ("math._sin", laid_math_sin), ("math._cos", laid_math_cos), ("math.mPi4", laid_math_mPi4), ("skyway/centre.kinds", laid_skyway_centre_kinds), ("unicode/utf8.first", laid_unicode_utf8_first)], narrowed := true }
def TopHoldsUptoSaid : Prop := topHoldsUptoRow.holds Tryz.pinned (OpenSpec.upto topHoldsSpec)

/-- 'skywaykeep4.SeasonPicks', WHERE WHAT IT READS IS OF BULK AT MOST 1048576: true; the input reads as it did. -/
def seasonPicksUptoRow : OpenClaim := { program := "ytaebebpldkciiaagreatdoor", sum := "7b2d474a506b5970b078006a9a72b8d20f034b1b068a84d25c3d9855015f8676", func := "skyway/skywaykeep4.SeasonPicks", spec := "seasonPicks", inPlace := ["slices.overlaps[skyway/api.OwnerEntry]", "slices.overlaps[skyway/api.CentreFlight]", "internal/bytealg.IndexByteString", "internal/bytealg.IndexString", "math.Float64bits", "math.Float64frombits", "math/bits.Add64"], unfollowed := true, recurses := true, named := ["skyway/centre.kinds", "unicode/utf8.first", "unicode/utf8.acceptRanges", "math._cos", "math._sin", "math.mPi4", "internal/bytealg.MaxLen"], apart := false, laid := [("unicode/utf8.acceptRanges", laid_unicode_utf8_acceptRanges), ("math._sin", laid_math_sin), ("math._cos", laid_math_cos), ("math.mPi4", laid_math_mPi4), ("skyway/centre.kinds", laid_skyway_centre_kinds), ("unicode/utf8.first", laid_unicode_utf8_first)], narrowed := true }
def SeasonPicksUptoSaid : Prop := seasonPicksUptoRow.holds Tryz.pinned (OpenSpec.upto seasonPicksSpec)

/-- 'skywaykeep4.SeasonSafe', WHERE WHAT IT READS IS OF BULK AT MOST 1048576: true; the input reads as it did. -/
def seasonSafeUptoRow : OpenClaim := { program := "ytaebebpldkciiaagreatdoor", sum := "7b2d474a506b5970b078006a9a72b8d20f034b1b068a84d25c3d9855015f8676", func := "skyway/skywaykeep4.SeasonSafe", spec := "seasonSafe", inPlace := ["slices.overlaps[skyway/api.OwnerEntry]", "slices.overlaps[skyway/api.CentreFlight]", "internal/bytealg.IndexByteString", "internal/bytealg.IndexString", "math.Float64bits", "math.Float64frombits", "math/bits.Add64"], unfollowed := true, recurses := true, named := ["skyway/centre.kinds", "unicode/utf8.first", "unicode/utf8.acceptRanges", "math._cos", "math._sin", "math.mPi4", "internal/bytealg.MaxLen"], apart := false, laid := [("unicode/utf8.acceptRanges", laid_unicode_utf8_acceptRanges), ("math._sin", laid_math_sin), ("math._cos", laid_math_cos), ("math.mPi4", laid_math_mPi4), ("skyway/centre.kinds", laid_skyway_centre_kinds), ("unicode/utf8.first", laid_unicode_utf8_first)], narrowed := true }
def SeasonSafeUptoSaid : Prop := seasonSafeUptoRow.holds Tryz.pinned (OpenSpec.upto seasonSafeSpec)

/-- 'skywaykeep4.SeasonCounts', WHERE WHAT IT READS IS OF BULK AT MOST 1048576: true; the input reads as it did. -/
def seasonCountsUptoRow : OpenClaim := { program := "ytaebebpldkciiaagreatdoor", sum := "7b2d474a506b5970b078006a9a72b8d20f034b1b068a84d25c3d9855015f8676", func := "skyway/skywaykeep4.SeasonCounts", spec := "seasonCounts", inPlace := ["slices.overlaps[skyway/api.OwnerEntry]", "slices.overlaps[skyway/api.CentreFlight]", "internal/bytealg.IndexByteString", "internal/bytealg.IndexString", "math.Float64bits", "math.Float64frombits", "math/bits.Add64"], unfollowed := true, recurses := true, named := ["skyway/centre.kinds", "unicode/utf8.first", "unicode/utf8.acceptRanges", "math._cos", "math._sin", "math.mPi4", "internal/bytealg.MaxLen"], apart := false, laid := [("unicode/utf8.acceptRanges", laid_unicode_utf8_acceptRanges), ("math._sin", laid_math_sin), ("math._cos", laid_math_cos), ("math.mPi4", laid_math_mPi4), ("skyway/centre.kinds", laid_skyway_centre_kinds), ("unicode/utf8.first", laid_unicode_utf8_first)], narrowed := true }
def SeasonCountsUptoSaid : Prop := seasonCountsUptoRow.holds Tryz.pinned (OpenSpec.upto seasonCountsSpec)

/-- 'skywaytop.TopPromise', WHERE WHAT IT READS IS OF BULK AT MOST 1048576: true; the input reads as it did. -/
def topPromiseUptoRow : OpenClaim := { program := "ytaebebpldkciiaagreatdoor", sum := "7b2d474a506b5970b078006a9a72b8d20f034b1b068a84d25c3d9855015f8676", func := "skyway/skywaytop.TopPromise", spec := "topPromise", inPlace := ["slices.overlaps[skyway/api.OwnerEntry]", "slices.overlaps[skyway/api.CentreFlight]", "internal/bytealg.IndexByteString", "internal/bytealg.IndexString", "math.Float64bits", "math.Float64frombits", "math/bits.Add64"], unfollowed := true, recurses := true, named := ["skyway/centre.kinds", "unicode/utf8.first", "unicode/utf8.acceptRanges", "math._cos", "math._sin", "math.mPi4", "internal/bytealg.MaxLen"], apart := false, laid := [("unicode/utf8.acceptRanges", laid_unicode_utf8_acceptRanges), ("math._sin", laid_math_sin), ("math._cos", laid_math_cos), ("math.mPi4", laid_math_mPi4), ("skyway/centre.kinds", laid_skyway_centre_kinds), ("unicode/utf8.first", laid_unicode_utf8_first)], narrowed := true }
def TopPromiseUptoSaid : Prop := topPromiseUptoRow.holds Tryz.pinned (OpenSpec.upto topPromiseSpec)

/-- 'skywaytop.TopTorn', WHERE WHAT IT READS IS OF BULK AT MOST 1048576: true; the input reads as it did. -/
def topTornUptoRow : OpenClaim := { program := "ytaebebpldkciiaagreatdoor", sum := "7b2d474a506b5970b078006a9a72b8d20f034b1b068a84d25c3d9855015f8676", func := "skyway/skywaytop.TopTorn", spec := "topTorn", inPlace := ["slices.overlaps[skyway/api.OwnerEntry]", "slices.overlaps[skyway/api.CentreFlight]", "internal/bytealg.IndexByteString", "internal/bytealg.IndexString", "math.Float64bits", "math.Float64frombits", "math/bits.Add64", "internal/bytealg.abigen_runtime_cmpstring", "slices.overlaps[skyway/api.SnapshotRow]"], unfollowed := true, recurses := true, named := ["skyway/centre.kinds", "unicode/utf8.first", "unicode/utf8.acceptRanges", "math._cos", "math._sin", "math.mPi4", "internal/strconv.uint64pow10", "math/bits.deBruijn32tab", "math/bits.deBruijn64tab", "internal/bytealg.MaxLen", "strconv.ErrSyntax", "strconv.ErrRange"], apart := false, laid := [("math/bits.deBruijn32tab", laid_math_bits_deBruijn32tab), ("math/bits.deBruijn64tab", laid_math_bits_deBruijn64tab), ("internal/strconv.uint64pow10", laid_internal_strconv_uint64pow10), ("unicode/utf8.acceptRanges", laid_unicode_utf8_acceptRanges), ("math._sin", laid_math_sin), ("math._cos", laid_math_cos), ("math.mPi4", laid_math_mPi4), ("strconv.ErrRange", laid_strconv_ErrRange), ("strconv.ErrSyntax", laid_strconv_ErrSyntax), ("skyway/centre.kinds", laid_skyway_centre_kinds), ("unicode/utf8.first", laid_unicode_utf8_first)], narrowed := true }
def TopTornUptoSaid : Prop := topTornUptoRow.holds Tryz.pinned (OpenSpec.upto topTornSpec)

end Rows
end Go.Proofs.YtaebebpldkciiaaGreatDoor
