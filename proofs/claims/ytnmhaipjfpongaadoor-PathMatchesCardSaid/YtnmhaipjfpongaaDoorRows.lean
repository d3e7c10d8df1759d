/-
  NARROWER THAN 'FOR EVERY INPUT', by the rows' own cells (each row's printed sentence says how): CacheNew: laid · Names: laid · CacheActs: laid · CacheKeys: laid · PathStays: laid · PathStars: laid · PathCleans: laid · PathMatches: laid.
  DERIVED. THE GIVEN ROWS OF THIS SEAT. 8 by the template 'for every input the law returns true; each argument reads behind the call as it read before'; 0 by the template 'total and deterministic' (their statements: YtnmhaipjfpongaaDoorTotals.lean).
  GIVEN WITH THE SEED: the statements are not yours to turn. If you find one false, say at which input.
  Laid BY PROGRAM, IN A SANDBOX (cutbox-rows.mjs): the forced cells as the released guide's own fill.sh prints them over the translation 1b2971a4f99c4c5d… (all of the seat's roots in one cut). By AI agents, Wed Nov 11 2026. No macro, syntax, notation, axiom, sorry.
-/
import Derived.Test.YtnmhaipjfpongaaDoorChecked
import GoSem.PinnedTables
import GoSem.Claim
import GoSem.ClaimJoined
import GoSem.ClaimMapViews
import Derived.JoinedTies
import Derived.KernelRfl
namespace Go.Proofs.YtnmhaipjfpongaaDoor
/- THE CELL 'sum', in the pinned program and in every row, IS THE sha256 OF THE DUMP (.gsa) THAT YtnmhaipjfpongaaDoorProg.lean LOADS. Nothing in Lean hashes anything: it is a label: what it is worth is what the hold of that sum in a sandbox is worth. -/
noncomputable def Tryd.pinned : Pinned := { name := "ytnmhaipjfpongaadoor", sum := "1b2971a4f99c4c5d4b13752bb47891b35d288ce82e901dd6c35a24feceee2788", checked := Tryd.checked }
namespace Rows
def none {H : Type} : Left H := { results := [], args := [] }

/- WHAT THE LISTED PACKAGE-LEVEL VARIABLES READ AS WHEN THE CALL BEGINS. Each datum BY PROGRAM (the guide's laid-datum.mjs) off the statement by which the dump's own 'gosem.cut.vars' lays the variable. In a bare row this is a premise. The card (YtnmhaipjfpongaaDoorCards.lean) ties it to the program's text. -/
def laid_kilnyard_api_ErrBound {H : Type} : DataW H := .iface "*errors.errorString" (.ptr (.agg [.lit (.string [107, 105, 108, 110, 121, 97, 114, 100, 58, 32, 98, 111, 117, 110, 100])]))
def laid_errors_errorType {H : Type} : DataW H := .iface "internal/reflectlite.rtype" (.agg [.ptr (.lit (.string [101, 114, 114, 111, 114]))])
def laid_kilnyard_api_ErrText {H : Type} : DataW H := .iface "*errors.errorString" (.ptr (.agg [.lit (.string [107, 105, 108, 110, 121, 97, 114, 100, 58, 32, 116, 101, 120, 116])]))
def laid_kilnyard_api_ErrShape {H : Type} : DataW H := .iface "*errors.errorString" (.ptr (.agg [.lit (.string [107, 105, 108, 110, 121, 97, 114, 100, 58, 32, 115, 104, 97, 112, 101])]))
def laid_kilnyard_api_ErrName {H : Type} : DataW H := .iface "*errors.errorString" (.ptr (.agg [.lit (.string [107, 105, 108, 110, 121, 97, 114, 100, 58, 32, 110, 97, 109, 101])]))
def laid_kilnyard_api_ErrKind {H : Type} : DataW H := .iface "*errors.errorString" (.ptr (.agg [.lit (.string [107, 105, 108, 110, 121, 97, 114, 100, 58, 32, 107, 105, 110, 100])]))
def laid_kilnyard_api_ErrNone {H : Type} : DataW H := .iface "*errors.errorString" (.ptr (.agg [.lit (.string [107, 105, 108, 110, 121, 97, 114, 100, 58, 32, 110, 111, 110, 101])]))
def laid_kilnyard_api_ErrExist {H : Type} : DataW H := .iface "*errors.errorString" (.ptr (.agg [.lit (.string [107, 105, 108, 110, 121, 97, 114, 100, 58, 32, 101, 120, 105, 115, 116])]))
def laid_kilnyard_api_ErrFull {H : Type} : DataW H := .iface "*errors.errorString" (.ptr (.agg [.lit (.string [107, 105, 108, 110, 121, 97, 114, 100, 58, 32, 102, 117, 108, 108])]))
def laid_kilnyard_api_ErrCycle {H : Type} : DataW H := .iface "*errors.errorString" (.ptr (.agg [.lit (.string [107, 105, 108, 110, 121, 97, 114, 100, 58, 32, 99, 121, 99, 108, 101])]))
def laid_kilnyard_api_ErrLong {H : Type} : DataW H := .iface "*errors.errorString" (.ptr (.agg [.lit (.string [107, 105, 108, 110, 121, 97, 114, 100, 58, 32, 108, 111, 110, 103])]))
def laid_kilnyard_api_ErrTurn {H : Type} : DataW H := .iface "*errors.errorString" (.ptr (.agg [.lit (.string [107, 105, 108, 110, 121, 97, 114, 100, 58, 32, 116, 117, 114, 110])]))
def laid_kilnyard_api_ErrDone {H : Type} : DataW H := .iface "*errors.errorString" (.ptr (.agg [.lit (.string [107, 105, 108, 110, 121, 97, 114, 100, 58, 32, 100, 111, 110, 101])]))
def laid_math_bits_deBruijn32tab {H : Type} : DataW H := .agg [.lit (.int .u8 0), .lit (.int .u8 1), .lit (.int .u8 28), .lit (.int .u8 2), .lit (.int .u8 29), .lit (.int .u8 14), .lit (.int .u8 24), .lit (.int .u8 3), .lit (.int .u8 30), .lit (.int .u8 22), .lit (.int .u8 20), .lit (.int .u8 15), .lit (.int .u8 25), .lit (.int .u8 17), .lit (.int .u8 4), .lit (.int .u8 8), .lit (.int .u8 31), .lit (.int .u8 27), .lit (.int .u8 13), .lit (.int .u8 23), .lit (.int .u8 21), .lit (.int .u8 19), .lit (.int .u8 16), .lit (.int .u8 7), .lit (.int .u8 26), .lit (.int .u8 12), .lit (.int .u8 18), .lit (.int .u8 6), .lit (.int .u8 11), .lit (.int .u8 5), .lit (.int .u8 10), .lit (.int .u8 9)]
def laid_math_bits_deBruijn64tab {H : Type} : DataW H := .agg [.lit (.int .u8 0), .lit (.int .u8 1), .lit (.int .u8 56), .lit (.int .u8 2), .lit (.int .u8 57), .lit (.int .u8 49), .lit (.int .u8 28), .lit (.int .u8 3), .lit (.int .u8 61), .lit (.int .u8 58), .lit (.int .u8 42), .lit (.int .u8 50), .lit (.int .u8 38), .lit (.int .u8 29), .lit (.int .u8 17), .lit (.int .u8 4), .lit (.int .u8 62), .lit (.int .u8 47), .lit (.int .u8 59), .lit (.int .u8 36), .lit (.int .u8 45), .lit (.int .u8 43), .lit (.int .u8 51), .lit (.int .u8 22), .lit (.int .u8 53), .lit (.int .u8 39), .lit (.int .u8 33), .lit (.int .u8 30), .lit (.int .u8 24), .lit (.int .u8 18), .lit (.int .u8 12), .lit (.int .u8 5), .lit (.int .u8 63), .lit (.int .u8 55), .lit (.int .u8 48), .lit (.int .u8 27), .lit (.int .u8 60), .lit (.int .u8 41), .lit (.int .u8 37), .lit (.int .u8 16), .lit (.int .u8 46), .lit (.int .u8 35), .lit (.int .u8 44), .lit (.int .u8 21), .lit (.int .u8 52), .lit (.int .u8 32), .lit (.int .u8 23), .lit (.int .u8 11), .lit (.int .u8 54), .lit (.int .u8 26), .lit (.int .u8 40), .lit (.int .u8 15), .lit (.int .u8 34), .lit (.int .u8 20), .lit (.int .u8 31), .lit (.int .u8 10), .lit (.int .u8 25), .lit (.int .u8 14), .lit (.int .u8 19), .lit (.int .u8 9), .lit (.int .u8 13), .lit (.int .u8 8), .lit (.int .u8 7), .lit (.int .u8 6)]
def laid_internal_strconv_uint64pow10 {H : Type} : DataW H := .agg [.lit (.int .u64 1), .lit (.int .u64 10), .lit (.int .u64 100), .lit (.int .u64 1000), .lit (.int .u64 10000), .lit (.int .u64 100000), .lit (.int .u64 1000000), .lit (.int .u64 10000000), .lit (.int .u64 100000000), .lit (.int .u64 1000000000), .lit (.int .u64 10000000000), .lit (.int .u64 100000000000), .lit (.int .u64 1000000000000), .lit (.int .u64 10000000000000), .lit (.int .u64 100000000000000), .lit (.int .u64 1000000000000000), .lit (.int .u64 10000000000000000), .lit (.int .u64 100000000000000000), .lit (.int .u64 1000000000000000000), .lit (.int .u64 10000000000000000000)]
def laid_unicode_utf8_acceptRanges {H : Type} : DataW H := .agg [.agg [.lit (.int .u8 128), .lit (.int .u8 191)], .agg [.lit (.int .u8 160), .lit (.int .u8 191)], .agg [.lit (.int .u8 128), .lit (.int .u8 159)], .agg [.lit (.int .u8 144), .lit (.int .u8 191)], .agg [.lit (.int .u8 128), .lit (.int .u8 143)], .agg [.lit (.int .u8 0), .lit (.int .u8 0)], .agg [.lit (.int .u8 0), .lit (.int .u8 0)], .agg [.lit (.int .u8 0), .lit (.int .u8 0)], .agg [.lit (.int .u8 0), .lit (.int .u8 0)], .agg [.lit (.int .u8 0), .lit (.int .u8 0)], .agg [.lit (.int .u8 0), .lit (.int .u8 0)], .agg [.lit (.int .u8 0), .lit (.int .u8 0)], .agg [.lit (.int .u8 0), .lit (.int .u8 0)], .agg [.lit (.int .u8 0), .lit (.int .u8 0)], .agg [.lit (.int .u8 0), .lit (.int .u8 0)], .agg [.lit (.int .u8 0), .lit (.int .u8 0)]]
/-- One of Go's own tables, pinned by name: the form's constant. -/
def laid_unicode_utf8_first : DataW Unit := Go.Pinned.utf8First

/-- 'kilnyardlaw2.CacheNew': WHATEVER THE INPUT: true; the input reads as it did. -/
def cacheNewSpec : ChangeSpec := { name := "cacheNew", fn := fun _ => fun
  | [d1, d2] => { results := [.lit (.bool true)], args := [d1, d2] }
  | _ => none }
def cacheNewRow : OpenClaim := { program := "ytnmhaipjfpongaadoor", sum := "1b2971a4f99c4c5d4b13752bb47891b35d288ce82e901dd6c35a24feceee2788", func := "kilnyard/kilnyardlaw2.CacheNew", spec := "cacheNew", unfollowed := true, recurses := true, named := ["kilnyard/api.ErrBound"], apart := false, laid := [("kilnyard/api.ErrBound", laid_kilnyard_api_ErrBound)] }
def CacheNewSaid : Prop := cacheNewRow.holds Tryd.pinned (OpenSpec.ofChange cacheNewSpec)

/-- ITS FALSE NEIGHBOUR: 'it returns false'. Refute it at one input. -/
def cacheNewWrong : ChangeSpec := { name := "cacheNew", fn := fun _ => fun
  | [d1, d2] => { results := [.lit (.bool false)], args := [d1, d2] }
  | _ => none }
def CacheNewWrongFalsely : Prop := cacheNewRow.holds Tryd.pinned (OpenSpec.ofChange cacheNewWrong)

/-- 'kilnyardlaw1.Names': WHATEVER THE INPUT: true; the input reads as it did. -/
def namesSpec : ChangeSpec := { name := "names", fn := fun _ => fun
  | [] => { results := [.lit (.bool true)], args := [] }
  | _ => none }
def namesRow : OpenClaim := { program := "ytnmhaipjfpongaadoor", sum := "1b2971a4f99c4c5d4b13752bb47891b35d288ce82e901dd6c35a24feceee2788", func := "kilnyard/kilnyardlaw1.Names", spec := "names", inPlace := ["internal/reflectlite.ValueOf", "(internal/reflectlite.Value).Type", "(internal/reflectlite.Value).IsNil", "internal/reflectlite.TypeOf", "(internal/reflectlite.Value).Elem", "(internal/reflectlite.Value).Set"], unfollowed := true, recurses := true, named := ["kilnyard/api.ErrText", "kilnyard/api.ErrBound", "kilnyard/api.ErrShape", "kilnyard/api.ErrName", "kilnyard/api.ErrKind", "kilnyard/api.ErrNone", "kilnyard/api.ErrExist", "kilnyard/api.ErrFull", "kilnyard/api.ErrCycle", "kilnyard/api.ErrLong", "kilnyard/api.ErrTurn", "kilnyard/api.ErrDone", "errors.errorType"], apart := false, laid := [("errors.errorType", laid_errors_errorType), ("kilnyard/api.ErrText", laid_kilnyard_api_ErrText), ("kilnyard/api.ErrBound", laid_kilnyard_api_ErrBound), ("kilnyard/api.ErrShape", laid_kilnyard_api_ErrShape), ("kilnyard/api.ErrName", laid_kilnyard_api_ErrName), ("kilnyard/api.ErrKind", laid_kilnyard_api_ErrKind), ("kilnyard/api.ErrNone", laid_kilnyard_api_ErrNone), ("kilnyard/api.ErrExist", laid_kilnyard_api_ErrExist), ("kilnyard/api.ErrFull", laid_kilnyard_api_ErrFull), ("kilnyard/api.ErrCycle", laid_kilnyard_api_ErrCycle), ("kilnyard/api.ErrLong", laid_kilnyard_api_ErrLong), ("kilnyard/api.ErrTurn", laid_kilnyard_api_ErrTurn), ("kilnyard/api.ErrDone", laid_kilnyard_api_ErrDone)] }
def NamesSaid : Prop := namesRow.holds Tryd.pinned (OpenSpec.ofChange namesSpec)

/-- ITS FALSE NEIGHBOUR: 'it returns false'. Refute it at one input. -/
def namesWrong : ChangeSpec := { name := "names", fn := fun _ => fun
  | [] => { results := [.lit (.bool false)], args := [] }
  | _ => none }
def NamesWrongFalsely : Prop := namesRow.holds Tryd.pinned (OpenSpec.ofChange namesWrong)

/-- 'kilnyardlaw2.CacheActs': WHATEVER THE INPUT: true; the input reads as it did. -/
def cacheActsSpec : ChangeSpec := { name := "cacheActs", fn := fun _ => fun
  | [d1, d2] => { results := [.lit (.bool true)], args := [d1, d2] }
  | _ => none }
def cacheActsRow : OpenClaim := { program := "ytnmhaipjfpongaadoor", sum := "1b2971a4f99c4c5d4b13752bb47891b35d288ce82e901dd6c35a24feceee2788", func := "kilnyard/kilnyardlaw2.CacheActs", spec := "cacheActs", inPlace := ["internal/reflectlite.ValueOf", "(internal/reflectlite.Value).Type", "(internal/reflectlite.Value).IsNil", "internal/reflectlite.TypeOf", "(internal/reflectlite.Value).Elem", "(internal/reflectlite.Value).Set"], unfollowed := true, recurses := true, named := ["kilnyard/api.ErrBound", "kilnyard/api.ErrText", "kilnyard/api.ErrShape", "kilnyard/api.ErrName", "kilnyard/api.ErrKind", "kilnyard/api.ErrNone", "kilnyard/api.ErrExist", "kilnyard/api.ErrFull", "kilnyard/api.ErrCycle", "kilnyard/api.ErrLong", "kilnyard/api.ErrTurn", "kilnyard/api.ErrDone", "errors.errorType"], apart := false, laid := [("errors.errorType", laid_errors_errorType), ("kilnyard/api.ErrText", laid_kilnyard_api_ErrText), ("kilnyard/api.ErrBound", laid_kilnyard_api_ErrBound), ("kilnyard/api.ErrShape", laid_kilnyard_api_ErrShape), ("kilnyard/api.ErrName", laid_kilnyard_api_ErrName), ("kilnyard/api.ErrKind", laid_kilnyard_api_ErrKind), ("kilnyard/api.ErrNone", laid_kilnyard_api_ErrNone), ("kilnyard/api.ErrExist", laid_kilnyard_api_ErrExist), ("kilnyard/api.ErrFull", laid_kilnyard_api_ErrFull), ("kilnyard/api.ErrCycle", laid_kilnyard_api_ErrCycle), ("kilnyard/api.ErrLong", laid_kilnyard_api_ErrLong), ("kilnyard/api.ErrTurn", laid_kilnyard_api_ErrTurn), ("kilnyard/api.ErrDone", laid_kilnyard_api_ErrDone)] }
def CacheActsSaid : Prop := cacheActsRow.holds Tryd.pinned (OpenSpec.ofChange cacheActsSpec)

/-- ITS FALSE NEIGHBOUR: 'it returns false'. Refute it at one input. -/
def cacheActsWrong : ChangeSpec := { name := "cacheActs", fn := fun _ => fun
  | [d1, d2] => { results := [.lit (.bool false)], args := [d1, d2] }
  | _ => none }
def CacheActsWrongFalsely : Prop := cacheActsRow.holds Tryd.pinned (OpenSpec.ofChange cacheActsWrong)

/-- 'kilnyardlaw2.CacheKeys': WHATEVER THE INPUT: true; the input reads as it did. -/
def cacheKeysSpec : ChangeSpec := { name := "cacheKeys", fn := fun _ => fun
  | [d1, d2, d3, d4, d5, d6] => { results := [.lit (.bool true)], args := [d1, d2, d3, d4, d5, d6] }
  | _ => none }
def cacheKeysRow : OpenClaim := { program := "ytnmhaipjfpongaadoor", sum := "1b2971a4f99c4c5d4b13752bb47891b35d288ce82e901dd6c35a24feceee2788", func := "kilnyard/kilnyardlaw2.CacheKeys", spec := "cacheKeys", inPlace := ["internal/abi.NoEscape"], unfollowed := true, recurses := true, named := ["kilnyard/api.ErrBound", "internal/strconv.uint64pow10", "math/bits.deBruijn32tab", "math/bits.deBruijn64tab"], apart := false, laid := [("math/bits.deBruijn32tab", laid_math_bits_deBruijn32tab), ("math/bits.deBruijn64tab", laid_math_bits_deBruijn64tab), ("internal/strconv.uint64pow10", laid_internal_strconv_uint64pow10), ("kilnyard/api.ErrBound", laid_kilnyard_api_ErrBound)] }
def CacheKeysSaid : Prop := cacheKeysRow.holds Tryd.pinned (OpenSpec.ofChange cacheKeysSpec)

/-- ITS FALSE NEIGHBOUR: 'it returns false'. Refute it at one input. -/
def cacheKeysWrong : ChangeSpec := { name := "cacheKeys", fn := fun _ => fun
  | [d1, d2, d3, d4, d5, d6] => { results := [.lit (.bool false)], args := [d1, d2, d3, d4, d5, d6] }
  | _ => none }
def CacheKeysWrongFalsely : Prop := cacheKeysRow.holds Tryd.pinned (OpenSpec.ofChange cacheKeysWrong)

/-- 'kilnyardlaw1.PathStays': WHATEVER THE INPUT: true; the input reads as it did. -/
def pathStaysSpec : ChangeSpec := { name := "pathStays", fn := fun _ => fun
  | [d] => { results := [.lit (.bool true)], args := [d] }
  | _ => none }
def pathStaysRow : OpenClaim := { program := "ytnmhaipjfpongaadoor", sum := "1b2971a4f99c4c5d4b13752bb47891b35d288ce82e901dd6c35a24feceee2788", func := "kilnyard/kilnyardlaw1.PathStays", spec := "pathStays", inPlace := ["internal/bytealg.IndexByteString", "internal/bytealg.IndexString", "internal/abi.NoEscape", "internal/bytealg.MakeNoZero", "internal/bytealg.CountString"], unfollowed := true, recurses := true, named := ["kilnyard/api.ErrBound", "kilnyard/api.ErrShape", "kilnyard/api.ErrNone", "unicode/utf8.first", "unicode/utf8.acceptRanges", "internal/bytealg.MaxLen", "kilnyard/api.ErrName"], apart := false, laid := [("unicode/utf8.acceptRanges", laid_unicode_utf8_acceptRanges), ("kilnyard/api.ErrBound", laid_kilnyard_api_ErrBound), ("kilnyard/api.ErrShape", laid_kilnyard_api_ErrShape), ("kilnyard/api.ErrName", laid_kilnyard_api_ErrName), ("kilnyard/api.ErrNone", laid_kilnyard_api_ErrNone), ("unicode/utf8.first", laid_unicode_utf8_first)] }
def PathStaysSaid : Prop := pathStaysRow.holds Tryd.pinned (OpenSpec.ofChange pathStaysSpec)

/-- ITS FALSE NEIGHBOUR: 'it returns false'. Refute it at one input. -/
def pathStaysWrong : ChangeSpec := { name := "pathStays", fn := fun _ => fun
  | [d] => { results := [.lit (.bool false)], args := [d] }
  | _ => none }
def PathStaysWrongFalsely : Prop := pathStaysRow.holds Tryd.pinned (OpenSpec.ofChange pathStaysWrong)

/-- 'kilnyardlaw1.PathStars': WHATEVER THE INPUT: true; the input reads as it did. -/
def pathStarsSpec : ChangeSpec := { name := "pathStars", fn := fun _ => fun
  | [d] => { results := [.lit (.bool true)], args := [d] }
  | _ => none }
def pathStarsRow : OpenClaim := { program := "ytnmhaipjfpongaadoor", sum := "1b2971a4f99c4c5d4b13752bb47891b35d288ce82e901dd6c35a24feceee2788", func := "kilnyard/kilnyardlaw1.PathStars", spec := "pathStars", inPlace := ["internal/bytealg.IndexByteString", "internal/bytealg.IndexString", "internal/abi.NoEscape", "internal/bytealg.MakeNoZero", "internal/bytealg.CountString"], unfollowed := true, recurses := true, named := ["kilnyard/api.ErrBound", "kilnyard/api.ErrShape", "kilnyard/api.ErrNone", "unicode/utf8.first", "unicode/utf8.acceptRanges", "internal/bytealg.MaxLen", "kilnyard/api.ErrName"], apart := false, laid := [("unicode/utf8.acceptRanges", laid_unicode_utf8_acceptRanges), ("kilnyard/api.ErrBound", laid_kilnyard_api_ErrBound), ("kilnyard/api.ErrShape", laid_kilnyard_api_ErrShape), ("kilnyard/api.ErrName", laid_kilnyard_api_ErrName), ("kilnyard/api.ErrNone", laid_kilnyard_api_ErrNone), ("unicode/utf8.first", laid_unicode_utf8_first)] }
def PathStarsSaid : Prop := pathStarsRow.holds Tryd.pinned (OpenSpec.ofChange pathStarsSpec)

/-- ITS FALSE NEIGHBOUR: 'it returns false'. Refute it at one input. -/
def pathStarsWrong : ChangeSpec := { name := "pathStars", fn := fun _ => fun
  | [d] => { results := [.lit (.bool false)], args := [d] }
  | _ => none }
def PathStarsWrongFalsely : Prop := pathStarsRow.holds Tryd.pinned (OpenSpec.ofChange pathStarsWrong)

/-- 'kilnyardlaw1.PathCleans': WHATEVER THE INPUT: true; the input reads as it did. -/
def pathCleansSpec : ChangeSpec := { name := "pathCleans", fn := fun _ => fun
  | [d1, d2] => { results := [.lit (.bool true)], args := [d1, d2] }
  | _ => none }
def pathCleansRow : OpenClaim := { program := "ytnmhaipjfpongaadoor", sum := "1b2971a4f99c4c5d4b13752bb47891b35d288ce82e901dd6c35a24feceee2788", func := "kilnyard/kilnyardlaw1.PathCleans", spec := "pathCleans", inPlace := ["internal/bytealg.IndexByteString", "internal/bytealg.IndexString", "internal/abi.NoEscape", "internal/bytealg.MakeNoZero", "internal/bytealg.CountString", "internal/reflectlite.ValueOf", "(internal/reflectlite.Value).Type", "(internal/reflectlite.Value).IsNil", "internal/reflectlite.TypeOf", "(internal/reflectlite.Value).Elem", "(internal/reflectlite.Value).Set"], unfollowed := true, recurses := true, named := ["kilnyard/api.ErrBound", "kilnyard/api.ErrShape", "kilnyard/api.ErrNone", "unicode/utf8.first", "unicode/utf8.acceptRanges", "internal/bytealg.MaxLen", "kilnyard/api.ErrName", "kilnyard/api.ErrText", "kilnyard/api.ErrKind", "kilnyard/api.ErrExist", "kilnyard/api.ErrFull", "kilnyard/api.ErrCycle", "kilnyard/api.ErrLong", "kilnyard/api.ErrTurn", "kilnyard/api.ErrDone", "errors.errorType"], apart := false, laid := [("unicode/utf8.acceptRanges", laid_unicode_utf8_acceptRanges), ("errors.errorType", laid_errors_errorType), ("kilnyard/api.ErrText", laid_kilnyard_api_ErrText), ("kilnyard/api.ErrBound", laid_kilnyard_api_ErrBound), ("kilnyard/api.ErrShape", laid_kilnyard_api_ErrShape), ("kilnyard/api.ErrName", laid_kilnyard_api_ErrName), ("kilnyard/api.ErrKind", laid_kilnyard_api_ErrKind), ("kilnyard/api.ErrNone", laid_kilnyard_api_ErrNone), ("kilnyard/api.ErrExist", laid_kilnyard_api_ErrExist), ("kilnyard/api.ErrFull", laid_kilnyard_api_ErrFull), ("kilnyard/api.ErrCycle", laid_kilnyard_api_ErrCycle), ("kilnyard/api.ErrLong", laid_kilnyard_api_ErrLong), ("kilnyard/api.ErrTurn", laid_kilnyard_api_ErrTurn), ("kilnyard/api.ErrDone", laid_kilnyard_api_ErrDone), ("unicode/utf8.first", laid_unicode_utf8_first)] }
def PathCleansSaid : Prop := pathCleansRow.holds Tryd.pinned (OpenSpec.ofChange pathCleansSpec)

/-- ITS FALSE NEIGHBOUR: 'it returns false'. Refute it at one input. -/
def pathCleansWrong : ChangeSpec := { name := "pathCleans", fn := fun _ => fun
  | [d1, d2] => { results := [.lit (.bool false)], args := [d1, d2] }
  | _ => none }
def PathCleansWrongFalsely : Prop := pathCleansRow.holds Tryd.pinned (OpenSpec.ofChange pathCleansWrong)

/-- 'kilnyardlaw1.PathMatches': WHATEVER THE INPUT: true; the input reads as it did. -/
def pathMatchesSpec : ChangeSpec := { name := "pathMatches", fn := fun _ => fun
  | [d1, d2] => { results := [.lit (.bool true)], args := [d1, d2] }
  | _ => none }
def pathMatchesRow : OpenClaim := { program := "ytnmhaipjfpongaadoor", sum := "1b2971a4f99c4c5d4b13752bb47891b35d288ce82e901dd6c35a24feceee2788", func := "kilnyard/kilnyardlaw1.PathMatches", spec := "pathMatches", inPlace := ["internal/bytealg.IndexByteString", "internal/bytealg.IndexString", "internal/abi.NoEscape", "internal/bytealg.MakeNoZero", "internal/bytealg.CountString", "internal/reflectlite.ValueOf", "(internal/reflectlite.Value).Type", "(internal/reflectlite.Value).IsNil", "internal/reflectlite.TypeOf", "(internal/reflectlite.Value).Elem", "(internal/reflectlite.Value).Set"], unfollowed := true, recurses := true, named := ["kilnyard/api.ErrBound", "kilnyard/api.ErrShape", "kilnyard/api.ErrNone", "unicode/utf8.first", "unicode/utf8.acceptRanges", "internal/bytealg.MaxLen", "kilnyard/api.ErrName", "kilnyard/api.ErrText", "kilnyard/api.ErrKind", "kilnyard/api.ErrExist", "kilnyard/api.ErrFull", "kilnyard/api.ErrCycle", "kilnyard/api.ErrLong", "kilnyard/api.ErrTurn", "kilnyard/api.ErrDone", "errors.errorType"], apart := false, laid := [("unicode/utf8.acceptRanges", laid_unicode_utf8_acceptRanges), ("errors.errorType", laid_errors_errorType), ("kilnyard/api.ErrText", laid_kilnyard_api_ErrText), ("kilnyard/api.ErrBound", laid_kilnyard_api_ErrBound), ("kilnyard/api.ErrShape", laid_kilnyard_api_ErrShape), ("kilnyard/api.ErrName", laid_kilnyard_api_ErrName), ("kilnyard/api.ErrKind", laid_kilnyard_api_ErrKind), ("kilnyard/api.ErrNone", laid_kilnyard_api_ErrNone), ("kilnyard/api.ErrExist", laid_kilnyard_api_ErrExist), ("kilnyard/api.ErrFull", laid_kilnyard_api_ErrFull), ("kilnyard/api.ErrCycle", laid_kilnyard_api_ErrCycle), ("kilnyard/api.ErrLong", laid_kilnyard_api_ErrLong), ("kilnyard/api.ErrTurn", laid_kilnyard_api_ErrTurn), ("kilnyard/api.ErrDone", laid_kilnyard_api_ErrDone), ("unicode/utf8.first", laid_unicode_utf8_first)] }
def PathMatchesSaid : Prop := pathMatchesRow.holds Tryd.pinned (OpenSpec.ofChange pathMatchesSpec)

/-- ITS FALSE NEIGHBOUR: 'it returns false'. Refute it at one input. -/
def pathMatchesWrong : ChangeSpec := { name := "pathMatches", fn := fun _ => fun
  | [d1, d2] => { results := [.lit (.bool false)], args := [d1, d2] }
  | _ => none }
def PathMatchesWrongFalsely : Prop := pathMatchesRow.holds Tryd.pinned (OpenSpec.ofChange pathMatchesWrong)

/- THE SECOND FORM. 'bulk': how many values and letters a reading holds, each counted each time it is reached (what is shared counts as often as it is met; a slice's spare places count too). A statement '..UptoSaid' is the law's where the arguments, and the package variables that the reading takes, are together of bulk at most 1048576: NARROWER than '..Said'. Prove '..Said' where nothing that the law and all that it calls make is longer than what came in: it says more and counts as full. Else prove '..UptoSaid'. A law counts once. -/
mutual
def uptoBulk {H : Type} : DataW H → Nat
  | .lit (.string bytes) => bytes.length + 1
  | .lit _ => 1
  | .nil => 1
  | .ptr d => uptoBulk d + 1
  | .slice elems spare => uptoBulkAll elems + uptoBulkAll spare + 1
  | .agg parts => uptoBulkAll parts + 1
  | .iface _ d => uptoBulk d + 1
  | .map entries => uptoBulkEntries entries + 1
  | .held _ => 1
def uptoBulkAll {H : Type} : List (DataW H) → Nat
  | [] => 0
  | d :: r => uptoBulk d + uptoBulkAll r
def uptoBulkEntries {H : Type} : List (Lit × DataW H) → Nat
  | [] => 0
  | x :: r => uptoBulkEntry x + uptoBulkEntries r
def uptoBulkEntry {H : Type} : Lit × DataW H → Nat
  | (.string bytes, d) => bytes.length + uptoBulk d + 1
  | (_, d) => uptoBulk d + 1
 end
def uptoSmall : (H : Type) → List (DataW H) → Bool := fun _ ds => decide (uptoBulkAll ds ≤ 1048576)
def OpenSpec.upto (s : _root_.Go.ChangeSpec) : _root_.Go.OpenSpec := { _root_.Go.OpenSpec.ofChange s with cond := some uptoSmall }

/-- 'kilnyardlaw2.CacheNew', WHERE WHAT IT READS IS OF BULK AT MOST 1048576: true; the input reads as it did. -/
def cacheNewUptoRow : OpenClaim := { program := "ytnmhaipjfpongaadoor", sum := "1b2971a4f99c4c5d4b13752bb47891b35d288ce82e901dd6c35a24feceee2788", func := "kilnyard/kilnyardlaw2.CacheNew", spec := "cacheNew", unfollowed := true, recurses := true, named := ["kilnyard/api.ErrBound"], apart := false, laid := [("kilnyard/api.ErrBound", laid_kilnyard_api_ErrBound)], narrowed := true }
def CacheNewUptoSaid : Prop := cacheNewUptoRow.holds Tryd.pinned (OpenSpec.upto cacheNewSpec)

/-- 'kilnyardlaw1.Names', WHERE WHAT IT READS IS OF BULK AT MOST 1048576: true; the input reads as it did. -/
def namesUptoRow : OpenClaim := { program := "ytnmhaipjfpongaadoor", sum := "1b2971a4f99c4c5d4b13752bb47891b35d288ce82e901dd6c35a24feceee2788", func := "kilnyard/kilnyardlaw1.Names", spec := "names", inPlace := ["internal/reflectlite.ValueOf", "(internal/reflectlite.Value).Type", "(internal/reflectlite.Value).IsNil", "internal/reflectlite.TypeOf", "(internal/reflectlite.Value).Elem", "(internal/reflectlite.Value).Set"], unfollowed := true, recurses := true, named := ["kilnyard/api.ErrText", "kilnyard/api.ErrBound", "kilnyard/api.ErrShape", "kilnyard/api.ErrName", "kilnyard/api.ErrKind", "kilnyard/api.ErrNone", "kilnyard/api.ErrExist", "kilnyard/api.ErrFull", "kilnyard/api.ErrCycle", "kilnyard/api.ErrLong", "kilnyard/api.ErrTurn", "kilnyard/api.ErrDone", "errors.errorType"], apart := false, laid := [("errors.errorType", laid_errors_errorType), ("kilnyard/api.ErrText", laid_kilnyard_api_ErrText), ("kilnyard/api.ErrBound", laid_kilnyard_api_ErrBound), ("kilnyard/api.ErrShape", laid_kilnyard_api_ErrShape), ("kilnyard/api.ErrName", laid_kilnyard_api_ErrName), ("kilnyard/api.ErrKind", laid_kilnyard_api_ErrKind), ("kilnyard/api.ErrNone", laid_kilnyard_api_ErrNone), ("kilnyard/api.ErrExist", laid_kilnyard_api_ErrExist), ("kilnyard/api.ErrFull", laid_kilnyard_api_ErrFull), ("kilnyard/api.ErrCycle", laid_kilnyard_api_ErrCycle), ("kilnyard/api.ErrLong", laid_kilnyard_api_ErrLong), ("kilnyard/api.ErrTurn", laid_kilnyard_api_ErrTurn), ("kilnyard/api.ErrDone", laid_kilnyard_api_ErrDone)], narrowed := true }
def NamesUptoSaid : Prop := namesUptoRow.holds Tryd.pinned (OpenSpec.upto namesSpec)

/-- 'kilnyardlaw2.CacheActs', WHERE WHAT IT READS IS OF BULK AT MOST 1048576: true; the input reads as it did. -/
def cacheActsUptoRow : OpenClaim := { program := "ytnmhaipjfpongaadoor", sum := "1b2971a4f99c4c5d4b13752bb47891b35d288ce82e901dd6c35a24feceee2788", func := "kilnyard/kilnyardlaw2.CacheActs", spec := "cacheActs", inPlace := ["internal/reflectlite.ValueOf", "(internal/reflectlite.Value).Type", "(internal/reflectlite.Value).IsNil", "internal/reflectlite.TypeOf", "(internal/reflectlite.Value).Elem", "(internal/reflectlite.Value).Set"], unfollowed := true, recurses := true, named := ["kilnyard/api.ErrBound", "kilnyard/api.ErrText", "kilnyard/api.ErrShape", "kilnyard/api.ErrName", "kilnyard/api.ErrKind", "kilnyard/api.ErrNone", "kilnyard/api.ErrExist", "kilnyard/api.ErrFull", "kilnyard/api.ErrCycle", "kilnyard/api.ErrLong", "kilnyard/api.ErrTurn", "kilnyard/api.ErrDone", "errors.errorType"], apart := false, laid := [("errors.errorType", laid_errors_errorType), ("kilnyard/api.ErrText", laid_kilnyard_api_ErrText), ("kilnyard/api.ErrBound", laid_kilnyard_api_ErrBound), ("kilnyard/api.ErrShape", laid_kilnyard_api_ErrShape), ("kilnyard/api.ErrName", laid_kilnyard_api_ErrName), ("kilnyard/api.ErrKind", laid_kilnyard_api_ErrKind), ("kilnyard/api.ErrNone", laid_kilnyard_api_ErrNone), ("kilnyard/api.ErrExist", laid_kilnyard_api_ErrExist), ("kilnyard/api.ErrFull", laid_kilnyard_api_ErrFull), ("kilnyard/api.ErrCycle", laid_kilnyard_api_ErrCycle), ("kilnyard/api.ErrLong", laid_kilnyard_api_ErrLong), ("kilnyard/api.ErrTurn", laid_kilnyard_api_ErrTurn), ("kilnyard/api.ErrDone", laid_kilnyard_api_ErrDone)], narrowed := true }
def CacheActsUptoSaid : Prop := cacheActsUptoRow.holds Tryd.pinned (OpenSpec.upto cacheActsSpec)

/-- 'kilnyardlaw2.CacheKeys', WHERE WHAT IT READS IS OF BULK AT MOST 1048576: true; the input reads as it did. -/
def cacheKeysUptoRow : OpenClaim := { program := "ytnmhaipjfpongaadoor", sum := "1b2971a4f99c4c5d4b13752bb47891b35d288ce82e901dd6c35a24feceee2788", func := "kilnyard/kilnyardlaw2.CacheKeys", spec := "cacheKeys", inPlace := ["internal/abi.NoEscape"], unfollowed := true, recurses := true, named := ["kilnyard/api.ErrBound", "internal/strconv.uint64pow10", "math/bits.deBruijn32tab", "math/bits.deBruijn64tab"], apart := false, laid := [("math/bits.deBruijn32tab", laid_math_bits_deBruijn32tab), ("math/bits.deBruijn64tab", laid_math_bits_deBruijn64tab), ("internal/strconv.uint64pow10", laid_internal_strconv_uint64pow10), ("kilnyard/api.ErrBound", laid_kilnyard_api_ErrBound)], narrowed := true }
def CacheKeysUptoSaid : Prop := cacheKeysUptoRow.holds Tryd.pinned (OpenSpec.upto cacheKeysSpec)

/-- 'kilnyardlaw1.PathStays', WHERE WHAT IT READS IS OF BULK AT MOST 1048576: true; the input reads as it did. -/
def pathStaysUptoRow : OpenClaim := { program := "ytnmhaipjfpongaadoor", sum := "1b2971a4f99c4c5d4b13752bb47891b35d288ce82e901dd6c35a24feceee2788", func := "kilnyard/kilnyardlaw1.PathStays", spec := "pathStays", inPlace := ["internal/bytealg.IndexByteString", "internal/bytealg.IndexString", "internal/abi.NoEscape", "internal/bytealg.MakeNoZero", "internal/bytealg.CountString"], unfollowed := true, recurses := true, named := ["kilnyard/api.ErrBound", "kilnyard/api.ErrShape", "kilnyard/api.ErrNone", "unicode/utf8.first", "unicode/utf8.acceptRanges", "internal/bytealg.MaxLen", "kilnyard/api.ErrName"], apart := false, laid := [("unicode/utf8.acceptRanges", laid_unicode_utf8_acceptRanges), ("kilnyard/api.ErrBound", laid_kilnyard_api_ErrBound), ("kilnyard/api.ErrShape", laid_kilnyard_api_ErrShape), ("kilnyard/api.ErrName", laid_kilnyard_api_ErrName), ("kilnyard/api.ErrNone", laid_kilnyard_api_ErrNone), ("unicode/utf8.first", laid_unicode_utf8_first)], narrowed := true }
def PathStaysUptoSaid : Prop := pathStaysUptoRow.holds Tryd.pinned (OpenSpec.upto pathStaysSpec)

/-- 'kilnyardlaw1.PathStars', WHERE WHAT IT READS IS OF BULK AT MOST 1048576: true; the input reads as it did. -/
def pathStarsUptoRow : OpenClaim := { program := "ytnmhaipjfpongaadoor", sum := "1b2971a4f99c4c5d4b13752bb47891b35d288ce82e901dd6c35a24feceee2788", func := "kilnyard/kilnyardlaw1.PathStars", spec := "pathStars", inPlace := ["internal/bytealg.IndexByteString", "internal/bytealg.IndexString", "internal/abi.NoEscape", "internal/bytealg.MakeNoZero", "internal/bytealg.CountString"], unfollowed := true, recurses := true, named := ["kilnyard/api.ErrBound", "kilnyard/api.ErrShape", "kilnyard/api.ErrNone", "unicode/utf8.first", "unicode/utf8.acceptRanges", "internal/bytealg.MaxLen", "kilnyard/api.ErrName"], apart := false, laid := [("unicode/utf8.acceptRanges", laid_unicode_utf8_acceptRanges), ("kilnyard/api.ErrBound", laid_kilnyard_api_ErrBound), ("kilnyard/api.ErrShape", laid_kilnyard_api_ErrShape), ("kilnyard/api.ErrName", laid_kilnyard_api_ErrName), ("kilnyard/api.ErrNone", laid_kilnyard_api_ErrNone), ("unicode/utf8.first", laid_unicode_utf8_first)], narrowed := true }
def PathStarsUptoSaid : Prop := pathStarsUptoRow.holds Tryd.pinned (OpenSpec.upto pathStarsSpec)

/-- 'kilnyardlaw1.PathCleans', WHERE WHAT IT READS IS OF BULK AT MOST 1048576: true; the input reads as it did. -/
def pathCleansUptoRow : OpenClaim := { program := "ytnmhaipjfpongaadoor", sum := "1b2971a4f99c4c5d4b13752bb47891b35d288ce82e901dd6c35a24feceee2788", func := "kilnyard/kilnyardlaw1.PathCleans", spec := "pathCleans", inPlace := ["internal/bytealg.IndexByteString", "internal/bytealg.IndexString", "internal/abi.NoEscape", "internal/bytealg.MakeNoZero", "internal/bytealg.CountString", "internal/reflectlite.ValueOf", "(internal/reflectlite.Value).Type", "(internal/reflectlite.Value).IsNil", "internal/reflectlite.TypeOf", "(internal/reflectlite.Value).Elem", "(internal/reflectlite.Value).Set"], unfollowed := true, recurses := true, named := ["kilnyard/api.ErrBound", "kilnyard/api.ErrShape", "kilnyard/api.ErrNone", "unicode/utf8.first", "unicode/utf8.acceptRanges", "internal/bytealg.MaxLen", "kilnyard/api.ErrName", "kilnyard/api.ErrText", "kilnyard/api.ErrKind", "kilnyard/api.ErrExist", "kilnyard/api.ErrFull", "kilnyard/api.ErrCycle", "kilnyard/api.ErrLong", "kilnyard/api.ErrTurn", "kilnyard/api.ErrDone", "errors.errorType"], apart := false, laid := [("unicode/utf8.acceptRanges", laid_unicode_utf8_acceptRanges), ("errors.errorType", laid_errors_errorType), ("kilnyard/api.ErrText", laid_kilnyard_api_ErrText), ("kilnyard/api.ErrBound", laid_kilnyard_api_ErrBound), ("kilnyard/api.ErrShape", laid_kilnyard_api_ErrShape), ("kilnyard/api.ErrName", laid_kilnyard_api_ErrName), ("kilnyard/api.ErrKind", laid_kilnyard_api_ErrKind), ("kilnyard/api.ErrNone", laid_kilnyard_api_ErrNone), ("kilnyard/api.ErrExist", laid_kilnyard_api_ErrExist), ("kilnyard/api.ErrFull", laid_kilnyard_api_ErrFull), ("kilnyard/api.ErrCycle", laid_kilnyard_api_ErrCycle), ("kilnyard/api.ErrLong", laid_kilnyard_api_ErrLong), ("kilnyard/api.ErrTurn", laid_kilnyard_api_ErrTurn), ("kilnyard/api.ErrDone", laid_kilnyard_api_ErrDone), ("unicode/utf8.first", laid_unicode_utf8_first)], narrowed := true }
def PathCleansUptoSaid : Prop := pathCleansUptoRow.holds Tryd.pinned (OpenSpec.upto pathCleansSpec)

/-- 'kilnyardlaw1.PathMatches', WHERE WHAT IT READS IS OF BULK AT MOST 1048576: true; the input reads as it did. -/
def pathMatchesUptoRow : OpenClaim := { program := "ytnmhaipjfpongaadoor", sum := "1b2971a4f99c4c5d4b13752bb47891b35d288ce82e901dd6c35a24feceee2788", func := "kilnyard/kilnyardlaw1.PathMatches", spec := "pathMatches", inPlace := ["internal/bytealg.IndexByteString", "internal/bytealg.IndexString", "internal/abi.NoEscape", "internal/bytealg.MakeNoZero", "internal/bytealg.CountString", "internal/reflectlite.ValueOf", "(internal/reflectlite.Value).Type", "(internal/reflectlite.Value).IsNil", "internal/reflectlite.TypeOf", "(internal/reflectlite.Value).Elem", "(internal/reflectlite.Value).Set"], unfollowed := true, recurses := true, named := ["kilnyard/api.ErrBound", "kilnyard/api.ErrShape", "kilnyard/api.ErrNone", "unicode/utf8.first", "unicode/utf8.acceptRanges", "internal/bytealg.MaxLen", "kilnyard/api.ErrName", "kilnyard/api.ErrText", "kilnyard/api.ErrKind", "kilnyard/api.ErrExist", "kilnyard/api.ErrFull", "kilnyard/api.ErrCycle", "kilnyard/api.ErrLong", "kilnyard/api.ErrTurn", "kilnyard/api.ErrDone", "errors.errorType"], apart := false, laid := [("unicode/utf8.acceptRanges", laid_unicode_utf8_acceptRanges), ("errors.errorType", laid_errors_errorType), ("kilnyard/api.ErrText", laid_kilnyard_api_ErrText), ("kilnyard/api.ErrBound", laid_kilnyard_api_ErrBound), ("kilnyard/api.ErrShape", laid_kilnyard_api_ErrShape), ("kilnyard/api.ErrName", laid_kilnyard_api_ErrName), ("kilnyard/api.ErrKind", laid_kilnyard_api_ErrKind), ("kilnyard/api.ErrNone", laid_kilnyard_api_ErrNone), ("kilnyard/api.ErrExist", laid_kilnyard_api_ErrExist), ("kilnyard/api.ErrFull", laid_kilnyard_api_ErrFull), ("kilnyard/api.ErrCycle", laid_kilnyard_api_ErrCycle), ("kilnyard/api.ErrLong", laid_kilnyard_api_ErrLong), ("kilnyard/api.ErrTurn", laid_kilnyard_api_ErrTurn), ("kilnyard/api.ErrDone", laid_kilnyard_api_ErrDone), ("unicode/utf8.first", laid_unicode_utf8_first)], narrowed := true }
def PathMatchesUptoSaid : Prop := pathMatchesUptoRow.holds Tryd.pinned (OpenSpec.upto pathMatchesSpec)

end Rows
end Go.Proofs.YtnmhaipjfpongaaDoor
