/- Texts of ours, merged: the abstract layer, the walks over the loaded functions, the plain laws. -/
import Derived.Test.YtllgmpejmagndaaGreatDoorA2
import Derived.Test.YtllgmpejmagndaaGreatDoorProg
import Derived.WideLaws
import Derived.WalkSpells
namespace Go.Abs
open Go.Proofs
set_option autoImplicit false
set_option linter.all false
set_option maxRecDepth 100000
set_option maxHeartbeats 40000000
theorem mix : Tryz.prog.follows .mixedOrders = true := by kernel_rfl
def zeros256 : List PV := List.replicate 256 (.val (.int .u32 0))
@[simp] theorem zeros256_length : zeros256.length = 256 := by kernel_rfl
@[simp] theorem zeros256_atomic : zeros256.all PV.atomic = true := by kernel_rfl
@[simp] theorem Tryz.zero98 : zeroOf Tryz.prog 98 = some zeros256 := by kernel_rfl
@[simp] theorem Tryz.sz2 : szOf Tryz.prog 2 = some 1 := by kernel_rfl
@[simp] theorem Tryz.by2 : bytesOf Tryz.prog 2 = some 8 := by kernel_rfl
@[simp] theorem Tryz.agg2 : aggOf Tryz.prog 2 = some false := by kernel_rfl
@[simp] theorem Tryz.zero2 : zeroOf Tryz.prog 2 = some [.val (.int .i64 0)] := by kernel_rfl
@[simp] theorem Tryz.sz3 : szOf Tryz.prog 3 = some 1 := by kernel_rfl
@[simp] theorem Tryz.by3 : bytesOf Tryz.prog 3 = some 8 := by kernel_rfl
@[simp] theorem Tryz.agg3 : aggOf Tryz.prog 3 = some false := by kernel_rfl
@[simp] theorem Tryz.zero3 : zeroOf Tryz.prog 3 = some [.val (.int .i64 0)] := by kernel_rfl
@[simp] theorem Tryz.sz4 : szOf Tryz.prog 4 = some 1 := by kernel_rfl
@[simp] theorem Tryz.by4 : bytesOf Tryz.prog 4 = some 1 := by kernel_rfl
@[simp] theorem Tryz.agg4 : aggOf Tryz.prog 4 = some false := by kernel_rfl
@[simp] theorem Tryz.zero4 : zeroOf Tryz.prog 4 = some [.val (.bool false)] := by kernel_rfl
@[simp] theorem Tryz.sz5 : szOf Tryz.prog 5 = some 1 := by kernel_rfl
@[simp] theorem Tryz.by5 : bytesOf Tryz.prog 5 = some 1 := by kernel_rfl
@[simp] theorem Tryz.agg5 : aggOf Tryz.prog 5 = some false := by kernel_rfl
@[simp] theorem Tryz.zero5 : zeroOf Tryz.prog 5 = some [.val (.int .u8 0)] := by kernel_rfl
@[simp] theorem Tryz.sz6 : szOf Tryz.prog 6 = some 1 := by kernel_rfl
@[simp] theorem Tryz.by6 : bytesOf Tryz.prog 6 = some 1 := by kernel_rfl
@[simp] theorem Tryz.agg6 : aggOf Tryz.prog 6 = some false := by kernel_rfl
@[simp] theorem Tryz.zero6 : zeroOf Tryz.prog 6 = some [.val (.int .u8 0)] := by kernel_rfl
@[simp] theorem Tryz.sz7 : szOf Tryz.prog 7 = some 4 := by kernel_rfl
@[simp] theorem Tryz.by7 : bytesOf Tryz.prog 7 = some 24 := by kernel_rfl
@[simp] theorem Tryz.agg7 : aggOf Tryz.prog 7 = some true := by kernel_rfl
@[simp] theorem Tryz.zero7 : zeroOf Tryz.prog 7 = some [.val (.int .i64 0), .val (.int .i64 0), .val (.bool false), .val (.int .u8 0)] := by kernel_rfl
@[simp] theorem Tryz.sz8 : szOf Tryz.prog 8 = some 4 := by kernel_rfl
@[simp] theorem Tryz.by8 : bytesOf Tryz.prog 8 = some 24 := by kernel_rfl
@[simp] theorem Tryz.agg8 : aggOf Tryz.prog 8 = some true := by kernel_rfl
@[simp] theorem Tryz.zero8 : zeroOf Tryz.prog 8 = some [.val (.int .i64 0), .val (.int .i64 0), .val (.bool false), .val (.int .u8 0)] := by kernel_rfl
@[simp] theorem Tryz.sz9 : szOf Tryz.prog 9 = some 1 := by kernel_rfl
@[simp] theorem Tryz.by9 : bytesOf Tryz.prog 9 = some 16 := by kernel_rfl
@[simp] theorem Tryz.agg9 : aggOf Tryz.prog 9 = some false := by kernel_rfl
@[simp] theorem Tryz.zero9 : zeroOf Tryz.prog 9 = some [.val (.string ⟨#[]⟩)] := by kernel_rfl
@[simp] theorem Tryz.sz10 : szOf Tryz.prog 10 = some 1 := by kernel_rfl
@[simp] theorem Tryz.by10 : bytesOf Tryz.prog 10 = some 16 := by kernel_rfl
@[simp] theorem Tryz.agg10 : aggOf Tryz.prog 10 = some false := by kernel_rfl
@[simp] theorem Tryz.zero10 : zeroOf Tryz.prog 10 = some [.val (.string ⟨#[]⟩)] := by kernel_rfl
@[simp] theorem Tryz.sz11 : szOf Tryz.prog 11 = some 1 := by kernel_rfl
@[simp] theorem Tryz.by11 : bytesOf Tryz.prog 11 = some 16 := by kernel_rfl
@[simp] theorem Tryz.agg11 : aggOf Tryz.prog 11 = some false := by kernel_rfl
@[simp] theorem Tryz.zero11 : zeroOf Tryz.prog 11 = some [.val (.string ⟨#[]⟩)] := by kernel_rfl
@[simp] theorem Tryz.sz12 : szOf Tryz.prog 12 = some 1 := by kernel_rfl
@[simp] theorem Tryz.by12 : bytesOf Tryz.prog 12 = some 8 := by kernel_rfl
@[simp] theorem Tryz.agg12 : aggOf Tryz.prog 12 = some false := by kernel_rfl
@[simp] theorem Tryz.zero12 : zeroOf Tryz.prog 12 = some [.val (.int .u64 0)] := by kernel_rfl
@[simp] theorem Tryz.sz13 : szOf Tryz.prog 13 = some 2 := by kernel_rfl
@[simp] theorem Tryz.by13 : bytesOf Tryz.prog 13 = some 24 := by kernel_rfl
@[simp] theorem Tryz.agg13 : aggOf Tryz.prog 13 = some true := by kernel_rfl
@[simp] theorem Tryz.zero13 : zeroOf Tryz.prog 13 = some [.val (.string ⟨#[]⟩), .val (.int .u64 0)] := by kernel_rfl
@[simp] theorem Tryz.sz14 : szOf Tryz.prog 14 = some 2 := by kernel_rfl
@[simp] theorem Tryz.by14 : bytesOf Tryz.prog 14 = some 24 := by kernel_rfl
@[simp] theorem Tryz.agg14 : aggOf Tryz.prog 14 = some true := by kernel_rfl
@[simp] theorem Tryz.zero14 : zeroOf Tryz.prog 14 = some [.val (.string ⟨#[]⟩), .val (.int .u64 0)] := by kernel_rfl
@[simp] theorem Tryz.sz15 : szOf Tryz.prog 15 = some 1 := by kernel_rfl
@[simp] theorem Tryz.by15 : bytesOf Tryz.prog 15 = some 8 := by kernel_rfl
@[simp] theorem Tryz.agg15 : aggOf Tryz.prog 15 = some false := by kernel_rfl
@[simp] theorem Tryz.zero15 : zeroOf Tryz.prog 15 = some [.val (.pointer none)] := by kernel_rfl
@[simp] theorem Tryz.sz16 : szOf Tryz.prog 16 = some 1 := by kernel_rfl
@[simp] theorem Tryz.by16 : bytesOf Tryz.prog 16 = some 8 := by kernel_rfl
@[simp] theorem Tryz.agg16 : aggOf Tryz.prog 16 = some false := by kernel_rfl
@[simp] theorem Tryz.zero16 : zeroOf Tryz.prog 16 = some [.val (.pointer none)] := by kernel_rfl
@[simp] theorem Tryz.sz17 : szOf Tryz.prog 17 = some 1 := by kernel_rfl
@[simp] theorem Tryz.by17 : bytesOf Tryz.prog 17 = some 8 := by kernel_rfl
@[simp] theorem Tryz.agg17 : aggOf Tryz.prog 17 = some false := by kernel_rfl
@[simp] theorem Tryz.zero17 : zeroOf Tryz.prog 17 = some [.val (.pointer none)] := by kernel_rfl
@[simp] theorem Tryz.sz18 : szOf Tryz.prog 18 = some 1 := by kernel_rfl
@[simp] theorem Tryz.by18 : bytesOf Tryz.prog 18 = some 8 := by kernel_rfl
@[simp] theorem Tryz.agg18 : aggOf Tryz.prog 18 = some true := by kernel_rfl
@[simp] theorem Tryz.zero18 : zeroOf Tryz.prog 18 = some [.val (.pointer none)] := by kernel_rfl
@[simp] theorem Tryz.sz19 : szOf Tryz.prog 19 = some 1 := by kernel_rfl
@[simp] theorem Tryz.by19 : bytesOf Tryz.prog 19 = some 8 := by kernel_rfl
@[simp] theorem Tryz.agg19 : aggOf Tryz.prog 19 = some true := by kernel_rfl
@[simp] theorem Tryz.zero19 : zeroOf Tryz.prog 19 = some [.val (.pointer none)] := by kernel_rfl
@[simp] theorem Tryz.sz20 : szOf Tryz.prog 20 = some 1 := by kernel_rfl
@[simp] theorem Tryz.by20 : bytesOf Tryz.prog 20 = some 16 := by kernel_rfl
@[simp] theorem Tryz.agg20 : aggOf Tryz.prog 20 = some false := by kernel_rfl
@[simp] theorem Tryz.zero20 : zeroOf Tryz.prog 20 = some [.val .nilIface] := by kernel_rfl
@[simp] theorem Tryz.sz21 : szOf Tryz.prog 21 = some 1 := by kernel_rfl
@[simp] theorem Tryz.by21 : bytesOf Tryz.prog 21 = some 4 := by kernel_rfl
@[simp] theorem Tryz.agg21 : aggOf Tryz.prog 21 = some false := by kernel_rfl
@[simp] theorem Tryz.zero21 : zeroOf Tryz.prog 21 = some [.val (.int .i32 0)] := by kernel_rfl
@[simp] theorem Tryz.sz22 : szOf Tryz.prog 22 = some 1 := by kernel_rfl
@[simp] theorem Tryz.by22 : bytesOf Tryz.prog 22 = some 24 := by kernel_rfl
@[simp] theorem Tryz.agg22 : aggOf Tryz.prog 22 = some false := by kernel_rfl
@[simp] theorem Tryz.zero22 : zeroOf Tryz.prog 22 = some [.val (.slice none 0 0)] := by kernel_rfl
@[simp] theorem Tryz.sz23 : szOf Tryz.prog 23 = some 1 := by kernel_rfl
@[simp] theorem Tryz.by23 : bytesOf Tryz.prog 23 = some 24 := by kernel_rfl
@[simp] theorem Tryz.agg23 : aggOf Tryz.prog 23 = some false := by kernel_rfl
@[simp] theorem Tryz.zero23 : zeroOf Tryz.prog 23 = some [.val (.slice none 0 0)] := by kernel_rfl
@[simp] theorem Tryz.sz24 : szOf Tryz.prog 24 = some 1 := by kernel_rfl
@[simp] theorem Tryz.by24 : bytesOf Tryz.prog 24 = some 24 := by kernel_rfl
@[simp] theorem Tryz.agg24 : aggOf Tryz.prog 24 = some false := by kernel_rfl
@[simp] theorem Tryz.zero24 : zeroOf Tryz.prog 24 = some [.val (.slice none 0 0)] := by kernel_rfl
@[simp] theorem Tryz.sz25 : szOf Tryz.prog 25 = some 4 := by kernel_rfl
@[simp] theorem Tryz.by25 : bytesOf Tryz.prog 25 = some 88 := by kernel_rfl
@[simp] theorem Tryz.agg25 : aggOf Tryz.prog 25 = some true := by kernel_rfl
@[simp] theorem Tryz.zero25 : zeroOf Tryz.prog 25 = some [.val (.string ⟨#[]⟩), .val (.slice none 0 0), .val (.slice none 0 0), .val (.slice none 0 0)] := by kernel_rfl
@[simp] theorem Tryz.sz26 : szOf Tryz.prog 26 = some 4 := by kernel_rfl
@[simp] theorem Tryz.by26 : bytesOf Tryz.prog 26 = some 88 := by kernel_rfl
@[simp] theorem Tryz.agg26 : aggOf Tryz.prog 26 = some true := by kernel_rfl
@[simp] theorem Tryz.zero26 : zeroOf Tryz.prog 26 = some [.val (.string ⟨#[]⟩), .val (.slice none 0 0), .val (.slice none 0 0), .val (.slice none 0 0)] := by kernel_rfl
@[simp] theorem Tryz.sz27 : szOf Tryz.prog 27 = some 1 := by kernel_rfl
@[simp] theorem Tryz.by27 : bytesOf Tryz.prog 27 = some 8 := by kernel_rfl
@[simp] theorem Tryz.agg27 : aggOf Tryz.prog 27 = some false := by kernel_rfl
@[simp] theorem Tryz.zero27 : zeroOf Tryz.prog 27 = some [.val (.int .u64 0)] := by kernel_rfl
@[simp] theorem Tryz.sz28 : szOf Tryz.prog 28 = some 1 := by kernel_rfl
@[simp] theorem Tryz.by28 : bytesOf Tryz.prog 28 = some 24 := by kernel_rfl
@[simp] theorem Tryz.agg28 : aggOf Tryz.prog 28 = some false := by kernel_rfl
@[simp] theorem Tryz.zero28 : zeroOf Tryz.prog 28 = some [.val (.slice none 0 0)] := by kernel_rfl
@[simp] theorem Tryz.sz29 : szOf Tryz.prog 29 = some 1 := by kernel_rfl
@[simp] theorem Tryz.by29 : bytesOf Tryz.prog 29 = some 8 := by kernel_rfl
@[simp] theorem Tryz.agg29 : aggOf Tryz.prog 29 = some false := by kernel_rfl
@[simp] theorem Tryz.zero29 : zeroOf Tryz.prog 29 = some [.val (.int .i64 0)] := by kernel_rfl
@[simp] theorem Tryz.sz39 : szOf Tryz.prog 39 = some 1 := by kernel_rfl
@[simp] theorem Tryz.by39 : bytesOf Tryz.prog 39 = some 1 := by kernel_rfl
@[simp] theorem Tryz.agg39 : aggOf Tryz.prog 39 = some false := by kernel_rfl
@[simp] theorem Tryz.zero39 : zeroOf Tryz.prog 39 = some [.val (.int .u8 0)] := by kernel_rfl
@[simp] theorem Tryz.sz40 : szOf Tryz.prog 40 = some 1 := by kernel_rfl
@[simp] theorem Tryz.by40 : bytesOf Tryz.prog 40 = some 8 := by kernel_rfl
@[simp] theorem Tryz.agg40 : aggOf Tryz.prog 40 = some false := by kernel_rfl
@[simp] theorem Tryz.zero40 : zeroOf Tryz.prog 40 = some [.val (.int .u64 0)] := by kernel_rfl
@[simp] theorem Tryz.sz41 : szOf Tryz.prog 41 = some 3 := by kernel_rfl
@[simp] theorem Tryz.by41 : bytesOf Tryz.prog 41 = some 32 := by kernel_rfl
@[simp] theorem Tryz.agg41 : aggOf Tryz.prog 41 = some true := by kernel_rfl
@[simp] theorem Tryz.zero41 : zeroOf Tryz.prog 41 = some [.val (.int .u8 0), .val (.int .u64 0), .val (.string ⟨#[]⟩)] := by kernel_rfl
@[simp] theorem Tryz.sz42 : szOf Tryz.prog 42 = some 3 := by kernel_rfl
@[simp] theorem Tryz.by42 : bytesOf Tryz.prog 42 = some 32 := by kernel_rfl
@[simp] theorem Tryz.agg42 : aggOf Tryz.prog 42 = some true := by kernel_rfl
@[simp] theorem Tryz.zero42 : zeroOf Tryz.prog 42 = some [.val (.int .u8 0), .val (.int .u64 0), .val (.string ⟨#[]⟩)] := by kernel_rfl
@[simp] theorem Tryz.sz43 : szOf Tryz.prog 43 = some 11 := by kernel_rfl
@[simp] theorem Tryz.by43 : bytesOf Tryz.prog 43 = some 96 := by kernel_rfl
@[simp] theorem Tryz.agg43 : aggOf Tryz.prog 43 = some true := by kernel_rfl
@[simp] theorem Tryz.zero43 : zeroOf Tryz.prog 43 = some [.val (.int .u8 0), .val (.bool false), .val (.int .i64 0), .val (.int .i64 0), .val (.int .i64 0), .val (.int .u8 0), .val (.int .u64 0), .val (.string ⟨#[]⟩), .val (.bool false), .val (.int .i64 0), .val (.string ⟨#[]⟩)] := by kernel_rfl
@[simp] theorem Tryz.sz44 : szOf Tryz.prog 44 = some 11 := by kernel_rfl
@[simp] theorem Tryz.by44 : bytesOf Tryz.prog 44 = some 96 := by kernel_rfl
@[simp] theorem Tryz.agg44 : aggOf Tryz.prog 44 = some true := by kernel_rfl
@[simp] theorem Tryz.zero44 : zeroOf Tryz.prog 44 = some [.val (.int .u8 0), .val (.bool false), .val (.int .i64 0), .val (.int .i64 0), .val (.int .i64 0), .val (.int .u8 0), .val (.int .u64 0), .val (.string ⟨#[]⟩), .val (.bool false), .val (.int .i64 0), .val (.string ⟨#[]⟩)] := by kernel_rfl
@[simp] theorem Tryz.sz45 : szOf Tryz.prog 45 = some 1 := by kernel_rfl
@[simp] theorem Tryz.by45 : bytesOf Tryz.prog 45 = some 24 := by kernel_rfl
@[simp] theorem Tryz.agg45 : aggOf Tryz.prog 45 = some false := by kernel_rfl
@[simp] theorem Tryz.zero45 : zeroOf Tryz.prog 45 = some [.val (.slice none 0 0)] := by kernel_rfl
@[simp] theorem Tryz.sz46 : szOf Tryz.prog 46 = some 1 := by kernel_rfl
@[simp] theorem Tryz.by46 : bytesOf Tryz.prog 46 = some 24 := by kernel_rfl
@[simp] theorem Tryz.agg46 : aggOf Tryz.prog 46 = some false := by kernel_rfl
@[simp] theorem Tryz.zero46 : zeroOf Tryz.prog 46 = some [.val (.slice none 0 0)] := by kernel_rfl
@[simp] theorem Tryz.sz47 : szOf Tryz.prog 47 = some 8 := by kernel_rfl
@[simp] theorem Tryz.by47 : bytesOf Tryz.prog 47 = some 104 := by kernel_rfl
@[simp] theorem Tryz.agg47 : aggOf Tryz.prog 47 = some true := by kernel_rfl
@[simp] theorem Tryz.zero47 : zeroOf Tryz.prog 47 = some [.val (.string ⟨#[]⟩), .val (.int .i64 0), .val (.int .i64 0), .val (.int .i64 0), .val (.int .i64 0), .val (.int .i64 0), .val (.slice none 0 0), .val (.slice none 0 0)] := by kernel_rfl
@[simp] theorem Tryz.sz48 : szOf Tryz.prog 48 = some 8 := by kernel_rfl
@[simp] theorem Tryz.by48 : bytesOf Tryz.prog 48 = some 104 := by kernel_rfl
@[simp] theorem Tryz.agg48 : aggOf Tryz.prog 48 = some true := by kernel_rfl
@[simp] theorem Tryz.zero48 : zeroOf Tryz.prog 48 = some [.val (.string ⟨#[]⟩), .val (.int .i64 0), .val (.int .i64 0), .val (.int .i64 0), .val (.int .i64 0), .val (.int .i64 0), .val (.slice none 0 0), .val (.slice none 0 0)] := by kernel_rfl
@[simp] theorem Tryz.sz49 : szOf Tryz.prog 49 = some 10 := by kernel_rfl
@[simp] theorem Tryz.by49 : bytesOf Tryz.prog 49 = some 88 := by kernel_rfl
@[simp] theorem Tryz.agg49 : aggOf Tryz.prog 49 = some true := by kernel_rfl
@[simp] theorem Tryz.zero49 : zeroOf Tryz.prog 49 = some [.val (.int .i64 0), .val (.int .i64 0), .val (.int .i64 0), .val (.int .i64 0), .val (.int .i64 0), .val (.int .i64 0), .val (.int .i64 0), .val (.int .u8 0), .val (.int .u64 0), .val (.string ⟨#[]⟩)] := by kernel_rfl
@[simp] theorem Tryz.sz50 : szOf Tryz.prog 50 = some 10 := by kernel_rfl
@[simp] theorem Tryz.by50 : bytesOf Tryz.prog 50 = some 88 := by kernel_rfl
@[simp] theorem Tryz.agg50 : aggOf Tryz.prog 50 = some true := by kernel_rfl
@[simp] theorem Tryz.zero50 : zeroOf Tryz.prog 50 = some [.val (.int .i64 0), .val (.int .i64 0), .val (.int .i64 0), .val (.int .i64 0), .val (.int .i64 0), .val (.int .i64 0), .val (.int .i64 0), .val (.int .u8 0), .val (.int .u64 0), .val (.string ⟨#[]⟩)] := by kernel_rfl
@[simp] theorem Tryz.sz51 : szOf Tryz.prog 51 = some 3 := by kernel_rfl
@[simp] theorem Tryz.by51 : bytesOf Tryz.prog 51 = some 24 := by kernel_rfl
@[simp] theorem Tryz.agg51 : aggOf Tryz.prog 51 = some true := by kernel_rfl
@[simp] theorem Tryz.zero51 : zeroOf Tryz.prog 51 = some [.val (.int .i64 0), .val (.int .i64 0), .val (.int .i64 0)] := by kernel_rfl
@[simp] theorem Tryz.sz52 : szOf Tryz.prog 52 = some 3 := by kernel_rfl
@[simp] theorem Tryz.by52 : bytesOf Tryz.prog 52 = some 24 := by kernel_rfl
@[simp] theorem Tryz.agg52 : aggOf Tryz.prog 52 = some true := by kernel_rfl
@[simp] theorem Tryz.zero52 : zeroOf Tryz.prog 52 = some [.val (.int .i64 0), .val (.int .i64 0), .val (.int .i64 0)] := by kernel_rfl
@[simp] theorem Tryz.sz53 : szOf Tryz.prog 53 = some 1 := by kernel_rfl
@[simp] theorem Tryz.by53 : bytesOf Tryz.prog 53 = some 24 := by kernel_rfl
@[simp] theorem Tryz.agg53 : aggOf Tryz.prog 53 = some false := by kernel_rfl
@[simp] theorem Tryz.zero53 : zeroOf Tryz.prog 53 = some [.val (.slice none 0 0)] := by kernel_rfl
@[simp] theorem Tryz.sz54 : szOf Tryz.prog 54 = some 7 := by kernel_rfl
@[simp] theorem Tryz.by54 : bytesOf Tryz.prog 54 = some 96 := by kernel_rfl
@[simp] theorem Tryz.agg54 : aggOf Tryz.prog 54 = some true := by kernel_rfl
@[simp] theorem Tryz.zero54 : zeroOf Tryz.prog 54 = some [.val (.string ⟨#[]⟩), .val (.int .i64 0), .val (.int .i64 0), .val (.int .i64 0), .val (.slice none 0 0), .val (.slice none 0 0), .val (.int .i64 0)] := by kernel_rfl
@[simp] theorem Tryz.sz55 : szOf Tryz.prog 55 = some 7 := by kernel_rfl
@[simp] theorem Tryz.by55 : bytesOf Tryz.prog 55 = some 96 := by kernel_rfl
@[simp] theorem Tryz.agg55 : aggOf Tryz.prog 55 = some true := by kernel_rfl
@[simp] theorem Tryz.zero55 : zeroOf Tryz.prog 55 = some [.val (.string ⟨#[]⟩), .val (.int .i64 0), .val (.int .i64 0), .val (.int .i64 0), .val (.slice none 0 0), .val (.slice none 0 0), .val (.int .i64 0)] := by kernel_rfl
@[simp] theorem Tryz.sz61 : szOf Tryz.prog 61 = some 1 := by kernel_rfl
@[simp] theorem Tryz.by61 : bytesOf Tryz.prog 61 = some 8 := by kernel_rfl
@[simp] theorem Tryz.agg61 : aggOf Tryz.prog 61 = some false := by kernel_rfl
@[simp] theorem Tryz.zero61 : zeroOf Tryz.prog 61 = some [.val (.pointer none)] := by kernel_rfl
@[simp] theorem Tryz.sz62 : szOf Tryz.prog 62 = some 1 := by kernel_rfl
@[simp] theorem Tryz.by62 : bytesOf Tryz.prog 62 = some 24 := by kernel_rfl
@[simp] theorem Tryz.agg62 : aggOf Tryz.prog 62 = some true := by kernel_rfl
@[simp] theorem Tryz.zero62 : zeroOf Tryz.prog 62 = some [.val (.slice none 0 0)] := by kernel_rfl
@[simp] theorem Tryz.sz63 : szOf Tryz.prog 63 = some 1 := by kernel_rfl
@[simp] theorem Tryz.by63 : bytesOf Tryz.prog 63 = some 24 := by kernel_rfl
@[simp] theorem Tryz.agg63 : aggOf Tryz.prog 63 = some true := by kernel_rfl
@[simp] theorem Tryz.zero63 : zeroOf Tryz.prog 63 = some [.val (.slice none 0 0)] := by kernel_rfl
@[simp] theorem Tryz.sz65 : szOf Tryz.prog 65 = some 1 := by kernel_rfl
@[simp] theorem Tryz.by65 : bytesOf Tryz.prog 65 = some 4 := by kernel_rfl
@[simp] theorem Tryz.agg65 : aggOf Tryz.prog 65 = some false := by kernel_rfl
@[simp] theorem Tryz.zero65 : zeroOf Tryz.prog 65 = some [.val (.int .u32 0)] := by kernel_rfl
@[simp] theorem Tryz.sz70 : szOf Tryz.prog 70 = some 1 := by kernel_rfl
@[simp] theorem Tryz.by70 : bytesOf Tryz.prog 70 = some 8 := by kernel_rfl
@[simp] theorem Tryz.agg70 : aggOf Tryz.prog 70 = some false := by kernel_rfl
@[simp] theorem Tryz.zero70 : zeroOf Tryz.prog 70 = some [.val (.pointer none)] := by kernel_rfl
@[simp] theorem Tryz.sz71 : szOf Tryz.prog 71 = some 4 := by kernel_rfl
@[simp] theorem Tryz.by71 : bytesOf Tryz.prog 71 = some 48 := by kernel_rfl
@[simp] theorem Tryz.agg71 : aggOf Tryz.prog 71 = some true := by kernel_rfl
@[simp] theorem Tryz.zero71 : zeroOf Tryz.prog 71 = some [.val (.slice none 0 0), .val (.int .i64 0), .val (.int .i64 0), .val (.int .i64 0)] := by kernel_rfl
@[simp] theorem Tryz.sz72 : szOf Tryz.prog 72 = some 4 := by kernel_rfl
@[simp] theorem Tryz.by72 : bytesOf Tryz.prog 72 = some 48 := by kernel_rfl
@[simp] theorem Tryz.agg72 : aggOf Tryz.prog 72 = some true := by kernel_rfl
@[simp] theorem Tryz.zero72 : zeroOf Tryz.prog 72 = some [.val (.slice none 0 0), .val (.int .i64 0), .val (.int .i64 0), .val (.int .i64 0)] := by kernel_rfl
@[simp] theorem Tryz.sz86 : szOf Tryz.prog 86 = some 1 := by kernel_rfl
@[simp] theorem Tryz.by86 : bytesOf Tryz.prog 86 = some 8 := by kernel_rfl
@[simp] theorem Tryz.agg86 : aggOf Tryz.prog 86 = some false := by kernel_rfl
@[simp] theorem Tryz.zero86 : zeroOf Tryz.prog 86 = some [.val (.map none)] := by kernel_rfl
@[simp] theorem Tryz.sz98 : szOf Tryz.prog 98 = some 256 := by kernel_rfl
@[simp] theorem Tryz.by98 : bytesOf Tryz.prog 98 = some 1024 := by kernel_rfl
@[simp] theorem Tryz.agg98 : aggOf Tryz.prog 98 = some true := by kernel_rfl
@[simp] theorem Tryz.sz100 : szOf Tryz.prog 100 = some 4 := by kernel_rfl
@[simp] theorem Tryz.by100 : bytesOf Tryz.prog 100 = some 4 := by kernel_rfl
@[simp] theorem Tryz.agg100 : aggOf Tryz.prog 100 = some true := by kernel_rfl
@[simp] theorem Tryz.zero100 : zeroOf Tryz.prog 100 = some [.val (.int .u8 0), .val (.int .u8 0), .val (.int .u8 0), .val (.int .u8 0)] := by kernel_rfl
@[simp] theorem Tryz.sz105 : szOf Tryz.prog 105 = some 1 := by kernel_rfl
@[simp] theorem Tryz.by105 : bytesOf Tryz.prog 105 = some 8 := by kernel_rfl
@[simp] theorem Tryz.agg105 : aggOf Tryz.prog 105 = some false := by kernel_rfl
@[simp] theorem Tryz.zero105 : zeroOf Tryz.prog 105 = some [.val (.pointer none)] := by kernel_rfl
@[simp] theorem Tryz.sz106 : szOf Tryz.prog 106 = some 1 := by kernel_rfl
@[simp] theorem Tryz.by106 : bytesOf Tryz.prog 106 = some 24 := by kernel_rfl
@[simp] theorem Tryz.agg106 : aggOf Tryz.prog 106 = some false := by kernel_rfl
@[simp] theorem Tryz.zero106 : zeroOf Tryz.prog 106 = some [.val (.slice none 0 0)] := by kernel_rfl
@[simp] theorem Tryz.sz125 : szOf Tryz.prog 125 = some 9 := by kernel_rfl
@[simp] theorem Tryz.by125 : bytesOf Tryz.prog 125 = some 72 := by kernel_rfl
@[simp] theorem Tryz.agg125 : aggOf Tryz.prog 125 = some true := by kernel_rfl
@[simp] theorem Tryz.zero125 : zeroOf Tryz.prog 125 = some [.val (.int .u8 0), .val (.bool false), .val (.int .i64 0), .val (.int .i64 0), .val (.int .i64 0), .val (.bool false), .val (.int .i64 0), .val (.int .i64 0), .val (.string ⟨#[]⟩)] := by kernel_rfl
@[simp] theorem Tryz.sz126 : szOf Tryz.prog 126 = some 9 := by kernel_rfl
@[simp] theorem Tryz.by126 : bytesOf Tryz.prog 126 = some 72 := by kernel_rfl
@[simp] theorem Tryz.agg126 : aggOf Tryz.prog 126 = some true := by kernel_rfl
@[simp] theorem Tryz.zero126 : zeroOf Tryz.prog 126 = some [.val (.int .u8 0), .val (.bool false), .val (.int .i64 0), .val (.int .i64 0), .val (.int .i64 0), .val (.bool false), .val (.int .i64 0), .val (.int .i64 0), .val (.string ⟨#[]⟩)] := by kernel_rfl
@[simp] theorem Tryz.sz129 : szOf Tryz.prog 129 = some 0 := by kernel_rfl
@[simp] theorem Tryz.by129 : bytesOf Tryz.prog 129 = some 0 := by kernel_rfl
@[simp] theorem Tryz.agg129 : aggOf Tryz.prog 129 = some true := by kernel_rfl
@[simp] theorem Tryz.zero129 : zeroOf Tryz.prog 129 = some [] := by kernel_rfl
@[simp] theorem Tryz.sz133 : szOf Tryz.prog 133 = some 9 := by kernel_rfl
@[simp] theorem Tryz.by133 : bytesOf Tryz.prog 133 = some 112 := by kernel_rfl
@[simp] theorem Tryz.agg133 : aggOf Tryz.prog 133 = some true := by kernel_rfl
@[simp] theorem Tryz.zero133 : zeroOf Tryz.prog 133 = some [.val (.string ⟨#[]⟩), .val (.int .i64 0), .val (.int .i64 0), .val (.int .i64 0), .val (.int .i64 0), .val (.int .i64 0), .val (.slice none 0 0), .val (.slice none 0 0), .val (.int .i64 0)] := by kernel_rfl
@[simp] theorem Tryz.sz134 : szOf Tryz.prog 134 = some 9 := by kernel_rfl
@[simp] theorem Tryz.by134 : bytesOf Tryz.prog 134 = some 112 := by kernel_rfl
@[simp] theorem Tryz.agg134 : aggOf Tryz.prog 134 = some true := by kernel_rfl
@[simp] theorem Tryz.zero134 : zeroOf Tryz.prog 134 = some [.val (.string ⟨#[]⟩), .val (.int .i64 0), .val (.int .i64 0), .val (.int .i64 0), .val (.int .i64 0), .val (.int .i64 0), .val (.slice none 0 0), .val (.slice none 0 0), .val (.int .i64 0)] := by kernel_rfl
@[simp] theorem Tryz.sz141 : szOf Tryz.prog 141 = some 9 := by kernel_rfl
@[simp] theorem Tryz.by141 : bytesOf Tryz.prog 141 = some 72 := by kernel_rfl
@[simp] theorem Tryz.agg141 : aggOf Tryz.prog 141 = some true := by kernel_rfl
@[simp] theorem Tryz.zero141 : zeroOf Tryz.prog 141 = some [.val (.int .i64 0), .val (.int .i64 0), .val (.int .i64 0), .val (.int .i64 0), .val (.int .i64 0), .val (.int .i64 0), .val (.int .i64 0), .val (.int .i64 0), .val (.int .i64 0)] := by kernel_rfl
@[simp] theorem Tryz.sz142 : szOf Tryz.prog 142 = some 9 := by kernel_rfl
@[simp] theorem Tryz.by142 : bytesOf Tryz.prog 142 = some 72 := by kernel_rfl
@[simp] theorem Tryz.agg142 : aggOf Tryz.prog 142 = some true := by kernel_rfl
@[simp] theorem Tryz.zero142 : zeroOf Tryz.prog 142 = some [.val (.int .i64 0), .val (.int .i64 0), .val (.int .i64 0), .val (.int .i64 0), .val (.int .i64 0), .val (.int .i64 0), .val (.int .i64 0), .val (.int .i64 0), .val (.int .i64 0)] := by kernel_rfl
@[simp] theorem Tryz.sz149 : szOf Tryz.prog 149 = some 1 := by kernel_rfl
@[simp] theorem Tryz.by149 : bytesOf Tryz.prog 149 = some 16 := by kernel_rfl
@[simp] theorem Tryz.agg149 : aggOf Tryz.prog 149 = some false := by kernel_rfl
@[simp] theorem Tryz.zero149 : zeroOf Tryz.prog 149 = some [.val .nilIface] := by kernel_rfl
@[simp] theorem Tryz.sz150 : szOf Tryz.prog 150 = some 1 := by kernel_rfl
@[simp] theorem Tryz.by150 : bytesOf Tryz.prog 150 = some 16 := by kernel_rfl
@[simp] theorem Tryz.agg150 : aggOf Tryz.prog 150 = some false := by kernel_rfl
@[simp] theorem Tryz.zero150 : zeroOf Tryz.prog 150 = some [.val .nilIface] := by kernel_rfl
@[simp] theorem Tryz.sz154 : szOf Tryz.prog 154 = some 6 := by kernel_rfl
@[simp] theorem Tryz.by154 : bytesOf Tryz.prog 154 = some 6 := by kernel_rfl
@[simp] theorem Tryz.agg154 : aggOf Tryz.prog 154 = some true := by kernel_rfl
@[simp] theorem Tryz.zero154 : zeroOf Tryz.prog 154 = some [.val (.bool false), .val (.bool false), .val (.bool false), .val (.bool false), .val (.bool false), .val (.bool false)] := by kernel_rfl
@[simp] theorem Tryz.sz155 : szOf Tryz.prog 155 = some 6 := by kernel_rfl
@[simp] theorem Tryz.by155 : bytesOf Tryz.prog 155 = some 6 := by kernel_rfl
@[simp] theorem Tryz.agg155 : aggOf Tryz.prog 155 = some true := by kernel_rfl
@[simp] theorem Tryz.zero155 : zeroOf Tryz.prog 155 = some [.val (.bool false), .val (.bool false), .val (.bool false), .val (.bool false), .val (.bool false), .val (.bool false)] := by kernel_rfl
@[simp] theorem Tryz.sz161 : szOf Tryz.prog 161 = some 1 := by kernel_rfl
@[simp] theorem Tryz.by161 : bytesOf Tryz.prog 161 = some 8 := by kernel_rfl
@[simp] theorem Tryz.agg161 : aggOf Tryz.prog 161 = some false := by kernel_rfl
@[simp] theorem Tryz.zero161 : zeroOf Tryz.prog 161 = some [.val (.float .f64 0)] := by kernel_rfl
def byteOf (n : Int) : UInt8 := UInt8.ofNat (n % 256).toNat
theorem byteOf_toNat (n : Int) : ((byteOf n).toNat : Int) = n % 256 := by
 unfold byteOf
 rw [UInt8.toNat_ofNat']
 omega
theorem u8_wrap (n : Int) : IntKind.u8.wrap n = ((byteOf n).toNat : Int) := by
 rw [byteOf_toNat]
 unfold IntKind.wrap; simp [IntKind.bits, IntKind.signed]
structure W (H : AS) (id lo : Nat) (bs : List UInt8) (p : PV) : Prop where
 box : H.box id = some [[p]]
 out : OutIs lo H p 1 (bs.map brow)
 lt : id < lo
 le : lo ≤ H.next
structure Wrote (id : Nat) (p p' : PV) (H H' : AS) : Prop where
 next : H.next ≤ H'.next
 color : H'.color = H.color
 box : ∀ j, j < H.next → j ≠ id → (∀ n s, p ≠ .msl j n s) → H'.box j = H.box j
 own : ∀ j n s, p' = .msl j n s → (∃ m s', p = .msl j m s') ∨ H.next ≤ j
 mp : ∀ j, j < H.next → H'.mp j = H.mp j
theorem Wrote.refl (id : Nat) (p : PV) (H : AS) : Wrote id p p H H := ⟨Nat.le_refl _, rfl, fun _ _ _ _ => rfl, fun j n s h => .inl ⟨n, s, h⟩, fun _ _ => rfl⟩
theorem Wrote.trans {id : Nat} {p p' p'' : PV} {H H' H'' : AS} (h : Wrote id p p' H H') (h' : Wrote id p' p'' H' H'') : Wrote id p p'' H H'' := by
 refine ⟨Nat.le_trans h.next h'.next, by rw [h'.color, h.color], fun j hj hi hp => ?_, fun j n s e => ?_, fun j hj => by rw [h'.mp j (Nat.lt_of_lt_of_le hj h.next), h.mp j hj]⟩
 rw [h'.box j (Nat.lt_of_lt_of_le hj h.next) hi fun n s e => ?_, h.box j hj hi hp]
 rcases h.own j n s e with ⟨m, s', e'⟩ | hge
 exact hp m s' e'
 omega
 rcases h'.own j n s e with ⟨m, s', e'⟩ | hge
 exact h.own j m s' e'
 exact .inr (Nat.le_trans h.next hge)
theorem Wrote.ext {id : Nat} {p p' : PV} {H H1 H' : AS} (h : Wrote id p p' H1 H') (he : H.Ext H1) : Wrote id p p' H H' := by
 refine ⟨Nat.le_trans he.next h.next, by rw [h.color, he.color], fun j hj hi hp => ?_, fun j n s e => ?_, fun j hj => by rw [h.mp j (Nat.lt_of_lt_of_le hj he.next), he.mp j hj]⟩
 rw [h.box j (Nat.lt_of_lt_of_le hj he.next) hi hp, he.box j hj]
 rcases h.own j n s e with h1 | h1
 exact .inl h1
 exact .inr (Nat.le_trans he.next h1)
theorem W.ext {H H' : AS} {id lo : Nat} {bs : List UInt8} {p : PV} (h : W H id lo bs p) (he : H.Ext H') : W H' id lo bs p :=
 ⟨by rw [he.box id (Nat.lt_of_lt_of_le h.lt h.le)]; exact h.box, h.out.keep he.next fun j _ hj => he.box j hj, h.lt, Nat.le_trans h.le he.next⟩
theorem OutIs.id_lt {lo : Nat} {H : AS} {p : PV} {sz : Nat} {rows : List (List PV)} (h : OutIs lo H p sz rows) {j n s : Nat} (e : p = .msl j n s) : lo ≤ j ∧ j < H.next := by
 rcases h with ⟨_, h⟩ | ⟨id, h1, h2, h3, _⟩
 rw [h] at e; cases e
 rw [h3] at e; cases e; exact ⟨h1, h2⟩
theorem owesO_none {fn : Func} {P : Program} {F' : AF} {H' : AS} {e : Exit} {k : PV → AS → Prop} (he : e = .normal ∨ e = .ret) (hr : aResults P F' H' fn.results.toList = some []) (hk : k (.tuple []) H') : OwesO P fn k e F' H' := by
 refine ⟨he, ?_⟩
 rw [hr]; exact hk
@[simp] theorem frozen_brow (bs : List UInt8) : ∀ r ∈ bs.map brow, ∀ p ∈ r, Frozen p := by simp [brow, Frozen]
theorem W.step {H H1 H2 : AS} {id lo : Nat} {bs new : List UInt8} {p p' : PV} (h : W H id lo bs p) (he : H.Ext H1) (hout : OutIs lo H2 p' 1 (bs.map brow ++ new.map brow)) (hel : Elsewhere p p' H1 H2) : W (H2.setBox id [[p']]) id lo (bs ++ new) p' ∧ Wrote id p p' H (H2.setBox id [[p']]) := by
 have hid : id < H.next := Nat.lt_of_lt_of_le h.lt h.le
 have h1 := he.next
 have h2 := hel.next
 refine ⟨⟨by simp, ?_, h.lt, Nat.le_trans h.le (by simp; omega)⟩, ⟨by simp; omega, by simp [hel.color, he.color], fun j hj hi hp => ?_, fun j n s e => ?_, fun j hj => ?_⟩⟩
 rw [List.map_append]
 exact hout.keep (by simp) fun j hl _ => by simp [show j ≠ id by have := h.lt; omega]
 rw [box_setBox, if_neg hi, hel.box j (by omega) hp, he.box j hj]
 rcases hel.own j n s e with h3 | h3
 exact .inl h3
 exact .inr (by omega)
 rw [mp_setBox, hel.mp, he.mp j hj]
theorem wByte (H : AS) (id lo : Nat) (bs : List UInt8) (p : PV) (n : Int) (hw : W H id lo bs p) (hb : bs.length < 2 ^ 46) : ACalls Tryz.prog 19 [.ptr id 1 0 0, pi n] H fun q H' => q = .tuple [] ∧ ∃ p', W H' id lo (bs ++ [byteOf n]) p' ∧ Wrote id p p' H H' := by
 refine ACalls_open Tryz.func19 rfl (by kernel_rfl) (by simp) fun hwf hbel => ?_
 refine T_rg ?_
 simp [aFieldAddr, aload, partOf, aConvert, abuildSlice, astore, splice, frame0, hw.box, frzR_id]
 refine appendK.of (aappend_outT (lo := lo) (rows := bs.map brow) (ys := ([byteOf n]).map brow) ?_ ?_ rfl rfl Tryz.sz5 Tryz.zero5 Tryz.by5 rfl rfl (by decide) ?_ (frozen_brow _) ?_ ?_)
 exact hw.out.keep (by simp) (fun j _ hj => by simp [Nat.ne_of_lt hj])
 have := hw.le; simp; try omega
 simp [srcOf, brow, u8_wrap]
 simp; omega
 intro p2 H2 hout hab hel
 have hb2 : H2.box id = some [[p]] := by
  rw [hab.box (by have := hw.le; simp; try omega) hw.lt]
  have := Nat.lt_of_lt_of_le hw.lt hw.le
  simp [hw.box]
  try omega
 simp [aFieldAddr, aload, partOf, aConvert, abuildSlice, astore, splice, frame0, hw.box, frzR_id, hb2, hout.cells, hout.okCells]
 refine owesO_none (.inl rfl) rfl ⟨rfl, p2, ?_⟩
 exact hw.step (.bump (.setBox (Nat.le_refl _) (.refl _))) hout hel
def encNum (n : Int) : List UInt8 := (List.range 8).map fun k => byteOf (n.fdiv (2 ^ (8 * k)))
def encText (s : ByteArray) : List UInt8 := encNum s.size ++ s.data.toList
def bit (b : Bool) : UInt8 := byteOf (if b then 1 else 0)
def encNums (ns : List Int) : List UInt8 := ns.flatMap encNum
def encVal (v : DVal) : List UInt8 := byteOf (IntKind.i64.wrap v.kind) :: encNum (IntKind.i64.wrap v.bits) ++ encText v.text
theorem encNum_length (n : Int) : (encNum n).length = 8 := by simp [encNum]
theorem encNum_take {n : Int} {i : Nat} (h : i < 8) : (encNum n).take (i + 1) = (encNum n).take i ++ [byteOf (n.fdiv (2 ^ (8 * i)))] := by
 rw [List.take_succ_eq_append_getElem (by simpa [encNum] using h)]
 simp [encNum]
theorem encNums_length (ns : List Int) : (encNums ns).length = 8 * ns.length := by
 induction ns with
 | nil => rfl
 | cons n ns ih => simp [encNums, List.flatMap_cons, encNum_length] at ih ⊢; omega
theorem encNums_take {ns : List Int} {i : Nat} (h : i < ns.length) : encNums (ns.take (i + 1)) = encNums (ns.take i) ++ encNum ns[i] := by
 rw [List.take_succ_eq_append_getElem h]; unfold encNums; rw [List.flatMap_append]; simp
theorem w8 {i : Nat} (h : i < 8) : IntKind.i64.wrap (8 * (i : Int)) = 8 * i := wrap_i64 (by omega) (by omega)
theorem part_int (n : Int) : partOf Tryz.prog 3 [pi n] 0 = some (pi n) := by simp [partOf]
theorem amsl {id n sz i : Nat} (h : i < n) : aindex sz (.msl id n sz) (i : Int) = some (.ptr id n i 0) := by
 unfold aindex; simp [h]
@[simp] theorem lenOf_msl (id n sz : Nat) : lenOf (.msl id n sz) = some n := rfl
theorem wNum (H : AS) (id lo : Nat) (bs : List UInt8) (p : PV) (n : Int) (hw : W H id lo bs p) (hb : bs.length + 8 < 2 ^ 46) : ACalls Tryz.prog 46 [.ptr id 1 0 0, pi n] H fun q H' => q = .tuple [] ∧ ∃ p', W H' id lo (bs ++ encNum n) p' ∧ Wrote id p p' H H' := by
 refine ACalls_open Tryz.func46 rfl (by kernel_rfl) (by simp) fun hwf hbel => ?_
 refine T_sr fun K0 hK0 => ?_
 simp [frame0]
 apply hK0
 refine T_block ?_
 refine T_loop (fun k F H' => ∃ (i : Nat) (p1 : PV), k = 8 - i ∧ i ≤ 8 ∧ F 0 = .ptr id 1 0 0 ∧ F 1 = pi n ∧ F 5 = pi i ∧ W H' id lo (bs ++ (encNum n).take i) p1 ∧ Wrote id p p1 H H') (8) ?_ ?_
 refine ⟨0, p, ?_⟩
 simp [frame0]
 exact ⟨hw, .refl _ _ _⟩
 rintro k F H' ⟨i, p1, rfl, hi, h0, h1, h5, hw1, hwr⟩
 refine T_sr fun K1 hK1 => ?_
 simp [aBin, aBinV, frame0, h0, h1, h5]
 apply hK1
 refine T_seqk fun K2 hK2 => ?_
 refine T_cond (by first | rfl | exact h0 | exact h1 | exact h5) (fun c0 => ?_) (fun c0 => ?_)
 have hi8 : i < 8 := by simp at c0; omega
 refine T_skip ?_
 simp only [kn]
 apply hK2
 refine T_seqk fun K3 hK3 => ?_
 refine T_block ?_
 refine T_sr fun K4 hK4 => ?_
 simp [frame0, h0, h1, h5]
 apply hK4
 refine T_rg ?_
 simp [aBin, aBinV, frame0, h0, h1, h5, w8 hi8]
 refine callK.of (wByte _ id lo (bs ++ (encNum n).take i) p1 _ hw1 (by simp; omega)) ?_
 rintro _ H2 ⟨rfl, p2, hw2, hwr2⟩
 simp [aBin, aBinV, frame0, h0, h1, h5, w8 hi8]
 apply hK3
 refine T_rg ?_
 simp [aBin, aBinV, frame0, h0, h1, h5]
 refine ⟨8 - (i + 1), by omega, i + 1, rfl, by omega, by rw [wrap_i64 (by omega) (by omega)]; rfl, p2, ?_, hwr.trans hwr2⟩
 rw [show min (8 * (i : Int)).toNat IntKind.i64.bits = 8 * i by simp [IntKind.bits]; omega] at hw2
 rw [encNum_take hi8, ← List.append_assoc]
 exact hw2
 have hge : 8 ≤ i := by simp at c0; omega
 refine T_exit ?_
 try simp only [ke, kn, if_true, if_false, Nat.reduceEqDiff, reduceIte]
 rw [List.take_of_length_le (by simp [encNum]; omega)] at hw1
 exact owesO_none (.inl rfl) rfl ⟨rfl, p1, hw1, hwr⟩
theorem wText (H : AS) (id lo : Nat) (bs : List UInt8) (p : PV) (s : ByteArray) (hw : W H id lo bs p) (hb : bs.length + 8 + s.size < 2 ^ 46) : ACalls Tryz.prog 45 [.ptr id 1 0 0, ps s] H fun q H' => q = .tuple [] ∧ ∃ p', W H' id lo (bs ++ encText s) p' ∧ Wrote id p p' H H' := by
 refine ACalls_open Tryz.func45 rfl (by kernel_rfl) (by simp) fun hwf hbel => ?_
 refine T_sr fun K0 hK0 => ?_
 simp [aLen, frame0]
 refine callK.of (wNum _ id lo bs p _ hw (by omega)) ?_
 rintro _ H1 ⟨rfl, p1, hw1, hwr1⟩
 simp [aLen, frame0]
 apply hK0
 refine T_rg ?_
 simp [aFieldAddr, aload, partOf, astore, splice, frame0, hw1.box]
 refine appendK.of (aappend_outT (lo := lo) (rows := (bs ++ encNum s.size).map brow) (ys := (s.data.toList).map brow) ?_ ?_ rfl rfl Tryz.sz5 Tryz.zero5 Tryz.by5 rfl rfl (by decide) ?_ (frozen_brow _) ?_ ?_)
 exact hw1.out
 have := hw1.le; simp; try omega
 simp
 simp [encNum]; omega
 intro p2 H2 hout hab hel
 have hb2 : H2.box id = some [[p1]] := by
  rw [hab.box (by have := hw1.le; simp; try omega) hw1.lt]
  have := Nat.lt_of_lt_of_le hw1.lt hw1.le
  simp [hw1.box]
  try omega
 simp [aFieldAddr, aload, partOf, astore, splice, frame0, hw1.box, hb2, hout.cells, hout.okCells]
 have hst := hw1.step (.refl _) hout hel
 rw [List.append_assoc] at hst
 exact owesO_none (.inl rfl) rfl ⟨rfl, p2, hst.1, hwr1.trans hst.2⟩
theorem wTruth (H : AS) (id lo : Nat) (bs : List UInt8) (p : PV) (b : Bool) (hw : W H id lo bs p) (hb : bs.length < 2 ^ 46) : ACalls Tryz.prog 47 [.ptr id 1 0 0, pb b] H fun q H' => q = .tuple [] ∧ ∃ p', W H' id lo (bs ++ [bit b]) p' ∧ Wrote id p p' H H' := by
 refine ACalls_open Tryz.func47 rfl (by kernel_rfl) (by simp) fun hwf hbel => ?_
 refine T_sr fun K0 hK0 => ?_
 simp [frame0]
 apply hK0
 refine T_mid (fun F H' => F 0 = .ptr id 1 0 0 ∧ F 4 = pi (if b then 1 else 0) ∧ H' = H) ?_ ?_
 refine T_sr fun K1 hK1 => ?_
 simp [frame0]
 apply hK1
 refine T_cond (rfl) (fun c0 => ?_) (fun c0 => ?_)
 refine T_rg ?_
 simp [frame0]
 simp_all [frame0]
 refine T_skip ?_
 simp only [kn]
 simp_all [frame0]
 rintro F H' ⟨h0, h4, rfl⟩
 refine T_rg ?_
 simp [frame0, h0, h4]
 refine callK.of (wByte _ id lo bs p _ hw hb) ?_
 rintro _ H2 ⟨rfl, p2, hw2, hwr2⟩
 simp [frame0, h0, h4]
 exact owesO_none (.inl rfl) rfl ⟨rfl, p2, hw2, hwr2⟩
theorem wNumsF (H : AS) (id lo : Nat) (bs : List UInt8) (p : PV) (ns : List Int) (hw : W H id lo bs p) (hb : bs.length + 8 * ns.length < 2 ^ 46) (c : Nat) : ACalls Tryz.prog 48 [.ptr id 1 0 0, PV.sl c 1 (ns.map irow)] H fun q H' => q = .tuple [] ∧ ∃ p', W H' id lo (bs ++ encNums ns) p' ∧ Wrote id p p' H H' := by
 refine ACalls_open Tryz.func48 rfl (by kernel_rfl) (by simp) fun hwf hbel => ?_
 refine T_sr fun K0 hK0 => ?_
 simp [aLen, frame0]
 apply hK0
 refine T_block ?_
 refine T_loop (fun k F H' => ∃ (i : Nat) (p1 : PV), k = ns.length - i ∧ i ≤ ns.length ∧ F 0 = .ptr id 1 0 0 ∧ F 6 = PV.sl c 1 (ns.map irow) ∧ F 7 = pi ns.length ∧ F 8 = pi i ∧ W H' id lo (bs ++ encNums (ns.take i)) p1 ∧ Wrote id p p1 H H') (ns.length) ?_ ?_
 refine ⟨0, p, ?_⟩
 simp [frame0, encNums]
 exact ⟨hw, .refl _ _ _⟩
 rintro k F H' ⟨i, p1, rfl, hi, h0, h6, h7, h8, hw1, hwr⟩
 refine T_sr fun K1 hK1 => ?_
 simp [aBin, aBinV, frame0, h0, h6, h7, h8]
 apply hK1
 refine T_seqk fun K2 hK2 => ?_
 refine T_cond (by first | rfl | exact h0 | exact h6 | exact h7 | exact h8) (fun c0 => ?_) (fun c0 => ?_)
 have hlt : i < ns.length := by simpa using c0
 refine T_skip ?_
 simp only [kn]
 apply hK2
 refine T_seqk fun K3 hK3 => ?_
 refine T_block ?_
 refine T_sr fun K4 hK4 => ?_
 simp [aIndexAddr, aload, frame0, h0, h6, h7, h8, part_int, sl_get (map_get (f := irow) hlt), irow]
 apply hK4
 refine T_rg ?_
 simp [frame0, h0, h6, h7, h8]
 refine callK.of (wNum _ id lo (bs ++ encNums (ns.take i)) p1 _ hw1 (by simp [encNums_length]; omega)) ?_
 rintro _ H2 ⟨rfl, p2, hw2, hwr2⟩
 simp [frame0, h0, h6, h7, h8]
 apply hK3
 refine T_rg ?_
 simp [aBin, aBinV, frame0, h0, h6, h7, h8]
 refine ⟨ns.length - (i + 1), by omega, i + 1, rfl, by omega, by rw [wrap_i64 (by omega) (by omega)]; rfl, p2, ?_, hwr.trans hwr2⟩
 rw [encNums_take hlt, ← List.append_assoc]
 exact hw2
 have hge : ns.length ≤ i := by simpa using c0
 refine T_exit ?_
 try simp only [ke, kn, if_true, if_false, Nat.reduceEqDiff, reduceIte]
 rw [List.take_of_length_le hge] at hw1
 exact owesO_none (.inl rfl) rfl ⟨rfl, p1, hw1, hwr⟩
theorem wNumsM (H : AS) (id lo : Nat) (bs : List UInt8) (p : PV) (ns : List Int) (hw : W H id lo bs p) (hb : bs.length + 8 * ns.length < 2 ^ 46) (j : Nat) (hj : H.box j = some (ns.map irow)) (hji : j ≠ id) (hjp : ∀ n s, p ≠ .msl j n s) : ACalls Tryz.prog 48 [.ptr id 1 0 0, .msl j ns.length 1] H fun q H' => q = .tuple [] ∧ ∃ p', W H' id lo (bs ++ encNums ns) p' ∧ Wrote id p p' H H' := by
 refine ACalls_open Tryz.func48 rfl (by kernel_rfl) (by simp) fun hwf hbel => ?_
 refine T_sr fun K0 hK0 => ?_
 simp [aLen, frame0]
 apply hK0
 refine T_block ?_
 refine T_loop (fun k F H' => ∃ (i : Nat) (p1 : PV), k = ns.length - i ∧ i ≤ ns.length ∧ F 0 = .ptr id 1 0 0 ∧ F 6 = .msl j ns.length 1 ∧ F 7 = pi ns.length ∧ F 8 = pi i ∧ W H' id lo (bs ++ encNums (ns.take i)) p1 ∧ Wrote id p p1 H H') (ns.length) ?_ ?_
 refine ⟨0, p, ?_⟩
 simp [frame0, encNums]
 exact ⟨hw, .refl _ _ _⟩
 rintro k F H' ⟨i, p1, rfl, hi, h0, h6, h7, h8, hw1, hwr⟩
 refine T_sr fun K1 hK1 => ?_
 simp [aBin, aBinV, frame0, h0, h6, h7, h8]
 apply hK1
 refine T_seqk fun K2 hK2 => ?_
 refine T_cond (by first | rfl | exact h0 | exact h6 | exact h7 | exact h8) (fun c0 => ?_) (fun c0 => ?_)
 have hlt : i < ns.length := by simpa using c0
 refine T_skip ?_
 simp only [kn]
 apply hK2
 refine T_seqk fun K3 hK3 => ?_
 refine T_block ?_
 refine T_sr fun K4 hK4 => ?_
 have hbj : H'.box j = some (ns.map irow) := by rw [hwr.box j (hwf.box _ _ hj).1 hji hjp]; exact hj
 simp [aIndexAddr, aload, frame0, h0, h6, h7, h8, part_int, amsl hlt, hbj, List.getElem?_eq_getElem hlt, irow]
 apply hK4
 refine T_rg ?_
 simp [frame0, h0, h6, h7, h8]
 refine callK.of (wNum _ id lo (bs ++ encNums (ns.take i)) p1 _ hw1 (by simp [encNums_length]; omega)) ?_
 rintro _ H2 ⟨rfl, p2, hw2, hwr2⟩
 simp [frame0, h0, h6, h7, h8]
 apply hK3
 refine T_rg ?_
 simp [aBin, aBinV, frame0, h0, h6, h7, h8]
 refine ⟨ns.length - (i + 1), by omega, i + 1, rfl, by omega, by rw [wrap_i64 (by omega) (by omega)]; rfl, p2, ?_, hwr.trans hwr2⟩
 rw [encNums_take hlt, ← List.append_assoc]
 exact hw2
 have hge : ns.length ≤ i := by simpa using c0
 refine T_exit ?_
 try simp only [ke, kn, if_true, if_false, Nat.reduceEqDiff, reduceIte]
 rw [List.take_of_length_le hge] at hw1
 exact owesO_none (.inl rfl) rfl ⟨rfl, p1, hw1, hwr⟩
theorem wValue (H : AS) (id lo : Nat) (bs : List UInt8) (p : PV) (v : DVal) (hw : W H id lo bs p) (hb : bs.length + 17 + v.text.size < 2 ^ 46) : ACalls Tryz.prog 49 [.ptr id 1 0 0, .agg v.row] H fun q H' => q = .tuple [] ∧ ∃ p', W H' id lo (bs ++ encVal v) p' ∧ Wrote id p p' H H' := by
 refine ACalls_open Tryz.func49 rfl (by kernel_rfl) (by simp) fun hwf hbel => ?_
 have hidn : id < H.next := Nat.lt_of_lt_of_le hw.lt hw.le
 have hpn : ∀ n s, p ≠ .msl H.next n s := fun n s e => by have := (hw.out.id_lt e).2; omega
 refine T_sr fun K0 hK0 => ?_
 simp [abox, frame0, DVal.row]
 apply hK0
 refine T_sr fun K1 hK1 => ?_
 simp [aFieldAddr, aload, partOf, aConvert, frame0, DVal.row]
 refine callK.of (wByte _ id lo bs p _ (hw.ext (.bump (.setBox (Nat.le_refl _) (.refl _)))) (by omega)) ?_
 rintro _ H1 ⟨rfl, p1, hw1, hwr1⟩
 have hv1 : H1.box H.next = some [v.row] := by
  rw [hwr1.box H.next (by simp) (by omega) hpn]; simp [DVal.row]
 simp [aFieldAddr, aload, partOf, aConvert, frame0, DVal.row]
 apply hK1
 refine T_sr fun K2 hK2 => ?_
 simp [aFieldAddr, aload, partOf, aConvert, frame0, hv1, DVal.row]
 refine callK.of (wNum _ id lo _ p1 _ hw1 (by simp; omega)) ?_
 rintro _ H2 ⟨rfl, p2, hw2, hwr2⟩
 have hv2 : H2.box H.next = some [v.row] := by
  rw [(hwr1.trans hwr2).box H.next (by simp) (by omega) hpn]; simp [DVal.row]
 simp [aFieldAddr, aload, partOf, aConvert, frame0, hv1, DVal.row]
 apply hK2
 refine T_rg ?_
 simp [aFieldAddr, aload, partOf, frame0, hv2, DVal.row]
 refine callK.of (wText _ id lo _ p2 _ hw2 (by simp [encNum]; omega)) ?_
 rintro _ H3 ⟨rfl, p3, hw3, hwr3⟩
 simp [aFieldAddr, aload, partOf, frame0, hv2, DVal.row]
 refine owesO_none (.inl rfl) rfl ⟨rfl, p3, ?_, ((hwr1.trans hwr2).trans hwr3).ext (.bump (.setBox (Nat.le_refl _) (.refl _)))⟩
 simpa [encVal] using hw3
theorem encText_length (s : ByteArray) : (encText s).length = 8 + s.size := by simp [encText, encNum_length]
theorem encVal_length (v : DVal) : (encVal v).length = 17 + v.text.size := by simp [encVal, encNum_length, encText_length]; omega
def encCell (x : DCell) : List UInt8 := [byteOf (IntKind.i64.wrap x.kind)] ++ [bit x.sub] ++ encNums [x.lo, x.hi, x.max] ++ encVal x.init ++ [bit x.keep] ++ [byteOf x.dir] ++ encText x.addr
def encOp (x : DOp) : List UInt8 := encNums [x.code, x.a, x.b, x.c, x.d, x.lo, x.hi] ++ encVal x.value
def encLoop (x : DLoop) : List UInt8 := encNums [x.head, x.stop, x.times]
def encFlat (x : DFlat) : List UInt8 := encText x.name ++ encNums [x.what, x.cells, x.base, x.regs, x.slots, x.ops.length] ++ x.ops.flatMap encOp ++ encNum x.loops.length ++ x.loops.flatMap encLoop
def encJob (x : DJob) : List UInt8 := encText x.name ++ encNums [x.interval, x.single, x.priority, x.codes.length] ++ encNums x.codes ++ encNum x.bases.length ++ encNums x.bases ++ encNum x.bound
def encImage (x : DImage) : List UInt8 := [114, 108, 121, 1] ++ encText x.name ++ encNum x.cells.length ++ x.cells.flatMap encCell ++ encNum x.codes.length ++ x.codes.flatMap encFlat ++ encNum x.jobs.length ++ x.jobs.flatMap encJob
theorem encCell_length (x : DCell) : (encCell x).length = 53 + x.init.text.size + x.addr.size := by
 simp only [encCell, List.length_append, List.length_cons, List.length_nil, encNums_length, encText_length, encVal_length]; omega
theorem encOp_length (x : DOp) : (encOp x).length = 73 + x.value.text.size := by
 simp only [encOp, List.length_append, List.length_cons, List.length_nil, encNums_length, encText_length, encVal_length]; omega
theorem encLoop_length (x : DLoop) : (encLoop x).length = 24 := by simp only [encLoop, encNums_length]; rfl
theorem encFlat_length (x : DFlat) : (encFlat x).length = 64 + x.name.size + (x.ops.flatMap encOp).length + (x.loops.flatMap encLoop).length := by
 simp only [encFlat, List.length_append, List.length_cons, List.length_nil, encNum_length, encNums_length, encText_length]; omega
theorem encJob_length (x : DJob) : (encJob x).length = 56 + x.name.size + 8 * x.codes.length + 8 * x.bases.length := by
 simp only [encJob, List.length_append, List.length_cons, List.length_nil, encNum_length, encNums_length, encText_length]; omega
theorem encImage_length (x : DImage) : (encImage x).length = 36 + x.name.size + (x.cells.flatMap encCell).length + (x.codes.flatMap encFlat).length + (x.jobs.flatMap encJob).length := by
 simp only [encImage, List.length_append, List.length_cons, List.length_nil, encNum_length, encNums_length, encText_length]; omega
theorem flat_take {α β : Type} {f : α → List β} {xs : List α} {i : Nat} (h : i < xs.length) : ((xs.take i).flatMap f).length + (f xs[i]).length ≤ (xs.flatMap f).length := by
 have e : xs.flatMap f = (xs.take i).flatMap f ++ (f xs[i] ++ (xs.drop (i + 1)).flatMap f) := by
  conv => lhs; rw [← List.take_append_drop i xs, List.drop_eq_getElem_cons h, List.flatMap_append, List.flatMap_cons]
 rw [e]; simp only [List.length_append]; omega
theorem flat_ge {α β : Type} {f : α → List β} {xs : List α} (h : ∀ x, 1 ≤ (f x).length) : xs.length ≤ (xs.flatMap f).length := by
 induction xs with
 | nil => simp
 | cons x xs ih => have := h x; rw [List.flatMap_cons, List.length_append, List.length_cons]; omega
theorem flat_le {α β : Type} {f : α → List β} {xs : List α} {i : Nat} : ((xs.take i).flatMap f).length ≤ (xs.flatMap f).length := by
 conv => rhs; rw [← List.take_append_drop i xs, List.flatMap_append, List.length_append]
 omega
theorem flat_take_succ {α β : Type} {f : α → List β} {xs : List α} {i : Nat} (h : i < xs.length) : (xs.take (i + 1)).flatMap f = (xs.take i).flatMap f ++ f xs[i] := by
 rw [List.take_succ_eq_append_getElem h, List.flatMap_append]; simp
structure Off (id : Nat) (p : PV) (H : AS) (j : Nat) (rows : List (List PV)) : Prop where
 box : H.box j = some rows
 lt : j < H.next
 ne : j ≠ id
 off : ∀ n s, p ≠ .msl j n s
theorem Off.wrote {id : Nat} {p p' : PV} {H H' : AS} {j : Nat} {rows : List (List PV)} (h : Off id p H j rows) (hw : Wrote id p p' H H') : Off id p' H' j rows :=
 ⟨by rw [hw.box j h.lt h.ne h.off]; exact h.box, Nat.lt_of_lt_of_le h.lt hw.next, h.ne, fun n s e => by
  rcases hw.own j n s e with ⟨m, s', e'⟩ | hge
  ·exact h.off m s' e'
  ·have := h.lt; omega⟩
theorem Off.ext {id : Nat} {p : PV} {H H' : AS} {j : Nat} {rows : List (List PV)} (h : Off id p H j rows) (he : H.Ext H') : Off id p H' j rows :=
 ⟨by rw [he.box j h.lt]; exact h.box, Nat.lt_of_lt_of_le h.lt he.next, h.ne, h.off⟩
theorem Off.new {id lo : Nat} {p : PV} {H H' : AS} {bs : List UInt8} {rows : List (List PV)} (hw : W H id lo bs p) (hb : H'.box H.next = some rows) (hn : H.next < H'.next) : Off id p H' H.next rows :=
 ⟨hb, hn, by have := hw.lt; have := hw.le; omega, fun n s e => by have := (hw.out.id_lt e).2; omega⟩
theorem Wrote.extR {id : Nat} {p p' : PV} {H H1 H' : AS} (h : Wrote id p p' H H1) (he : H1.Ext H') : Wrote id p p' H H' :=
 ⟨Nat.le_trans h.next he.next, by rw [he.color, h.color], fun j hj hi hp => by rw [he.box j (Nat.lt_of_lt_of_le hj h.next), h.box j hj hi hp], h.own, fun j hj => by rw [he.mp j (Nat.lt_of_lt_of_le hj h.next), h.mp j hj]⟩
theorem part_cell (x : DCell) : partOf Tryz.prog 44 x.row 0 = some (.agg x.row) := by simp [partOf, DCell.row]
theorem part_flat (c : Nat) (x : DFlat) : partOf Tryz.prog 48 (x.row c) 0 = some (.agg (x.row c)) := by simp [partOf, DFlat.row]
theorem part_op (x : DOp) : partOf Tryz.prog 50 x.row 0 = some (.agg x.row) := by simp [partOf, DOp.row]
theorem part_loop (x : DLoop) : partOf Tryz.prog 52 x.row 0 = some (.agg x.row) := by simp [partOf, DLoop.row]
theorem part_job (c : Nat) (x : DJob) : partOf Tryz.prog 55 (x.row c) 0 = some (.agg (x.row c)) := by simp [partOf, DJob.row]
theorem splice_cell (a b c d e f g h i j k : PV) (x : DCell) : splice [a, b, c, d, e, f, g, h, i, j, k] 0 x.row = x.row := by simp [splice, DCell.row]
theorem splice_op (a b c d e f g h i j : PV) (x : DOp) : splice [a, b, c, d, e, f, g, h, i, j] 0 x.row = x.row := by simp [splice, DOp.row]
theorem splice_loop (a b c : PV) (x : DLoop) : splice [a, b, c] 0 x.row = x.row := by simp [splice, DLoop.row]
theorem splice_flat (a b c d e f g h : PV) (n : Nat) (x : DFlat) : splice [a, b, c, d, e, f, g, h] 0 (x.row n) = x.row n := by simp [splice, DFlat.row]
theorem splice_job (a b c d e f g : PV) (n : Nat) (x : DJob) : splice [a, b, c, d, e, f, g] 0 (x.row n) = x.row n := by simp [splice, DJob.row]
@[simp] theorem range3 : List.range 3 = [0, 1, 2] := rfl
@[simp] theorem range4 : List.range 4 = [0, 1, 2, 3] := rfl
@[simp] theorem range6 : List.range 6 = [0, 1, 2, 3, 4, 5] := rfl
@[simp] theorem range7 : List.range 7 = [0, 1, 2, 3, 4, 5, 6] := rfl
@[simp] theorem DCell.row_length (x : DCell) : x.row.length = 11 := rfl
@[simp] theorem DOp.row_length (x : DOp) : x.row.length = 10 := rfl
@[simp] theorem DLoop.row_length (x : DLoop) : x.row.length = 3 := rfl
@[simp] theorem DFlat.row_length (c : Nat) (x : DFlat) : (x.row c).length = 8 := rfl
@[simp] theorem DJob.row_length (c : Nat) (x : DJob) : (x.row c).length = 7 := rfl
theorem abox_image (H : AS) (c : Nat) (x : DImage) : abox H (.agg (x.row c)) = some (.ptr H.next 1 0 0, (H.setBox H.next [x.row c]).bump 1) := by simp [abox, DImage.row]
theorem wImage (H : AS) (id lo : Nat) (bs : List UInt8) (p : PV) (x : DImage) (c : Nat) (hw : W H id lo bs p) (hb : bs.length + (encImage x).length < 2 ^ 45) : ACalls Tryz.prog 17 [.ptr id 1 0 0, .agg (x.row c)] H fun q H' => q = .tuple [] ∧ ∃ p', W H' id lo (bs ++ encImage x) p' ∧ Wrote id p p' H H' := by
 refine ACalls_open Tryz.func17 rfl (by kernel_rfl) (by simp) fun hwf hbel => ?_
 rw [encImage_length] at hb
 have hW := Wrote.refl id p H
 refine T_mid (fun F H' => F 0 = .ptr id 1 0 0 ∧ F 3 = .ptr H.next 1 0 0 ∧ H.Ext H' ∧ H'.box H.next = some [x.row c] ∧ H.next < H'.next) ?_ ?_
 refine T_rg ?_
 simp [frame0, abox_image]
 exact .bump (.setBox (Nat.le_refl _) (.refl _))
 rintro F H' ⟨g0, g3, gext, gbox, glt⟩
 have ho := Off.new hw gbox glt
 have hw := hw.ext gext
 have hW := hW.extR gext
 refine T_mid (fun F H' => ∃ p1, F 0 = .ptr id 1 0 0 ∧ F 3 = .ptr H.next 1 0 0 ∧ W H' id lo (bs ++ [114, 108, 121, 1]) p1 ∧ Off id p1 H' H.next [x.row c] ∧ Wrote id p p1 H H') ?_ ?_
 refine T_rg ?_
 simp [aFieldAddr, aload, partOf, abuildSlice, astore, splice, frame0, g0, g3, hw.box, frzR_id, brow]
 refine appendK.of (aappend_outT (lo := lo) (rows := bs.map brow) (ys := ([114, 108, 121, 1]).map brow) ?_ ?_ rfl rfl Tryz.sz5 Tryz.zero5 Tryz.by5 rfl rfl (by decide) ?_ (frozen_brow _) ?_ ?_)
 exact hw.out.keep (by simp) (fun j _ hj => by simp [Nat.ne_of_lt hj])
 have := hw.le; simp; try omega
 simp [srcOf, brow]
 simp; omega
 intro p2 H2 hout hab hel
 have hb2 : H2.box id = some [[p]] := by
  rw [hab.box (by have := hw.le; simp; try omega) hw.lt]
  have := Nat.lt_of_lt_of_le hw.lt hw.le
  simp [hw.box]
  try omega
 simp [aFieldAddr, aload, partOf, abuildSlice, astore, splice, frame0, g0, g3, hw.box, frzR_id, brow, hb2, hout.cells, hout.okCells]
 obtain ⟨hw3, hwr3⟩ := hw.step (.bump (.setBox (Nat.le_refl _) (.refl _))) hout hel
 exact ⟨p2, hw3, ho.wrote hwr3, hW.trans hwr3⟩
 rintro F H' ⟨p1, g0, g3, hw, ho, hW⟩
 refine T_sr fun K0 hK0 => ?_
 simp [aFieldAddr, aload, partOf, frame0, g0, g3, ho.box, DImage.row]
 have hnx := Nat.lt_of_lt_of_le hw.lt hw.le
 refine callK.of (wText _ id lo _ _ _ hw (by simp only [List.length_append, List.length_cons, List.length_nil, encNum_length, encNums_length, encText_length, encVal_length]; omega)) ?_
 rintro _ H2 ⟨rfl, p2, hw2, hwr⟩
 have ho := ho.wrote hwr
 have hW := hW.trans hwr
 have hw := hw2
 simp [aFieldAddr, aload, partOf, frame0, g0, g3, ho.box, DImage.row]
 apply hK0
 refine T_sr fun K1 hK1 => ?_
 simp [aFieldAddr, aload, partOf, aLen, frame0, g0, g3, ho.box, DImage.row]
 have hnx := Nat.lt_of_lt_of_le hw.lt hw.le
 refine callK.of (wNum _ id lo _ _ _ hw (by simp only [List.length_append, List.length_cons, List.length_nil, encNum_length, encNums_length, encText_length, encVal_length]; omega)) ?_
 rintro _ H2 ⟨rfl, p2, hw2, hwr⟩
 have ho := ho.wrote hwr
 have hW := hW.trans hwr
 have hw := hw2
 simp [aFieldAddr, aload, partOf, aLen, frame0, g0, g3, ho.box, DImage.row]
 apply hK1
 refine T_seqk fun K2 hK2 => ?_
 refine T_sr fun K3 hK3 => ?_
 simp [aFieldAddr, aload, partOf, aLen, frame0, g0, g3, ho.box, DImage.row]
 apply hK3
 refine T_block ?_
 refine T_loop (fun k F H' => ∃ (i : Nat) (p1 : PV), k = x.cells.length - i ∧ i ≤ x.cells.length ∧ F 0 = .ptr id 1 0 0 ∧ F 3 = .ptr H.next 1 0 0 ∧ F 33 = PV.sl c 11 (x.cells.map DCell.row) ∧ F 34 = pi x.cells.length ∧ F 35 = pi i ∧ W H' id lo (bs ++ [114, 108, 121, 1] ++ encText x.name ++ encNum x.cells.length ++ (x.cells.take i).flatMap encCell) p1 ∧ Off id p1 H' H.next [x.row c] ∧ Wrote id p p1 H H') (x.cells.length) ?_ ?_
 refine ⟨0, p2, ?_⟩
 simp [g0, g3]
 exact ⟨by simpa using hw, ho, hW⟩
 rintro k F H1 ⟨i, p1, rfl, hile, g0, g3, g33, g34, g35, hw, ho, hW⟩
 refine T_sr fun K4 hK4 => ?_
 simp [aBin, aBinV, frame0, g0, g3, g33, g34, g35]
 apply hK4
 refine T_seqk fun K5 hK5 => ?_
 refine T_cond (rfl) (fun c0 => ?_) (fun c0 => ?_)
 have hi : i < x.cells.length := by simp at c0; omega
 have hfli := flat_take (f := encCell) hi
 have hgni := flat_ge (f := encCell) (xs := x.cells) (fun y => by rw [encCell_length]; omega)
 rw [encCell_length] at hfli
 refine T_skip ?_
 simp only [kn]
 apply hK5
 refine T_seqk fun K6 hK6 => ?_
 refine T_block ?_
 refine T_mid (fun F H' => F 0 = .ptr id 1 0 0 ∧ F 3 = .ptr H.next 1 0 0 ∧ F 33 = PV.sl c 11 (x.cells.map DCell.row) ∧ F 34 = pi x.cells.length ∧ F 35 = pi i ∧ F 5 = .ptr H1.next 1 0 0 ∧ H1.Ext H' ∧ H'.box H1.next = some [x.cells[i].row] ∧ H1.next < H'.next) ?_ ?_
 refine T_rg ?_
 simp [aIndexAddr, aload, aalloc, astore, frame0, g0, g3, g33, g34, g35, sl_get (map_get (f := DCell.row) hi), part_cell, splice_cell]
 exact .setBox (Nat.le_refl _) (.bump (.setBox (Nat.le_refl _) (.refl _)))
 rintro F H' ⟨g0, g3, g33, g34, g35, g5, gext, gbox, glt⟩
 have hc := Off.new hw gbox glt
 have hw := hw.ext gext
 have hW := hW.extR gext
 have ho := ho.ext gext
 refine T_sr fun K7 hK7 => ?_
 simp [aFieldAddr, aload, partOf, aConvert, frame0, g0, g3, g33, g34, g35, g5, hc.box, DCell.row]
 have hnx := Nat.lt_of_lt_of_le hw.lt hw.le
 refine callK.of (wByte _ id lo _ _ _ hw (by simp only [List.length_append, List.length_cons, List.length_nil, encNum_length, encNums_length, encText_length, encVal_length]; omega)) ?_
 rintro _ H2 ⟨rfl, p2, hw2, hwr⟩
 have ho := ho.wrote hwr
 have hc := hc.wrote hwr
 have hW := hW.trans hwr
 have hw := hw2
 simp [aFieldAddr, aload, partOf, aConvert, frame0, g0, g3, g33, g34, g35, g5, hc.box, DCell.row]
 apply hK7
 refine T_sr fun K8 hK8 => ?_
 simp [aFieldAddr, aload, partOf, frame0, g0, g3, g33, g34, g35, g5, hc.box, DCell.row]
 have hnx := Nat.lt_of_lt_of_le hw.lt hw.le
 refine callK.of (wTruth _ id lo _ _ _ hw (by simp only [List.length_append, List.length_cons, List.length_nil, encNum_length, encNums_length, encText_length, encVal_length]; omega)) ?_
 rintro _ H2 ⟨rfl, p2, hw2, hwr⟩
 have ho := ho.wrote hwr
 have hc := hc.wrote hwr
 have hW := hW.trans hwr
 have hw := hw2
 simp [aFieldAddr, aload, partOf, frame0, g0, g3, g33, g34, g35, g5, hc.box, DCell.row]
 apply hK8
 refine T_sr fun K9 hK9 => ?_
 simp [aFieldAddr, aload, partOf, abuildSlice, frame0, g0, g3, g33, g34, g35, g5, hc.box, DCell.row, frzR_id]
 have hnx := Nat.lt_of_lt_of_le hw.lt hw.le
 refine callK.of (wNumsM _ id lo _ _ [x.cells[i].lo, x.cells[i].hi, x.cells[i].max] (hw.ext (.bump (.setBox (Nat.le_refl _) (.refl _)))) (by simp only [List.length_append, List.length_cons, List.length_nil, encNum_length, encNums_length, encText_length, encVal_length]; omega) _ (by simp [irow]) (by simp <;> omega) (fun n s e => absurd (hw.out.id_lt e).2 (by simp))) ?_
 rintro _ H2 ⟨rfl, p2, hw2, hwr⟩
 have hwr := hwr.ext (.bump (.setBox (Nat.le_refl _) (.refl _)))
 have ho := ho.wrote hwr
 have hc := hc.wrote hwr
 have hW := hW.trans hwr
 have hw := hw2
 simp [aFieldAddr, aload, partOf, abuildSlice, frame0, g0, g3, g33, g34, g35, g5, hc.box, DCell.row, frzR_id]
 apply hK9
 refine T_sr fun K10 hK10 => ?_
 simp [aFieldAddr, aload, partOf, frame0, g0, g3, g33, g34, g35, g5, hc.box, DCell.row]
 have hnx := Nat.lt_of_lt_of_le hw.lt hw.le
 refine callK.of (wValue _ id lo _ _ x.cells[i].init hw (by simp only [List.length_append, List.length_cons, List.length_nil, encNum_length, encNums_length, encText_length, encVal_length]; omega)) ?_
 rintro _ H2 ⟨rfl, p2, hw2, hwr⟩
 have ho := ho.wrote hwr
 have hc := hc.wrote hwr
 have hW := hW.trans hwr
 have hw := hw2
 simp [aFieldAddr, aload, partOf, frame0, g0, g3, g33, g34, g35, g5, hc.box, DCell.row]
 apply hK10
 refine T_sr fun K11 hK11 => ?_
 simp [aFieldAddr, aload, partOf, frame0, g0, g3, g33, g34, g35, g5, hc.box, DCell.row]
 have hnx := Nat.lt_of_lt_of_le hw.lt hw.le
 refine callK.of (wTruth _ id lo _ _ _ hw (by simp only [List.length_append, List.length_cons, List.length_nil, encNum_length, encNums_length, encText_length, encVal_length]; omega)) ?_
 rintro _ H2 ⟨rfl, p2, hw2, hwr⟩
 have ho := ho.wrote hwr
 have hc := hc.wrote hwr
 have hW := hW.trans hwr
 have hw := hw2
 simp [aFieldAddr, aload, partOf, frame0, g0, g3, g33, g34, g35, g5, hc.box, DCell.row]
 apply hK11
 refine T_sr fun K12 hK12 => ?_
 simp [aFieldAddr, aload, partOf, frame0, g0, g3, g33, g34, g35, g5, hc.box, DCell.row]
 have hnx := Nat.lt_of_lt_of_le hw.lt hw.le
 refine callK.of (wByte _ id lo _ _ _ hw (by simp only [List.length_append, List.length_cons, List.length_nil, encNum_length, encNums_length, encText_length, encVal_length]; omega)) ?_
 rintro _ H2 ⟨rfl, p2, hw2, hwr⟩
 have ho := ho.wrote hwr
 have hc := hc.wrote hwr
 have hW := hW.trans hwr
 have hw := hw2
 simp [aFieldAddr, aload, partOf, frame0, g0, g3, g33, g34, g35, g5, hc.box, DCell.row]
 apply hK12
 refine T_rg ?_
 simp [aFieldAddr, aload, partOf, frame0, g0, g3, g33, g34, g35, g5, hc.box, DCell.row]
 have hnx := Nat.lt_of_lt_of_le hw.lt hw.le
 refine callK.of (wText _ id lo _ _ _ hw (by simp only [List.length_append, List.length_cons, List.length_nil, encNum_length, encNums_length, encText_length, encVal_length]; omega)) ?_
 rintro _ H2 ⟨rfl, p2, hw2, hwr⟩
 have ho := ho.wrote hwr
 have hc := hc.wrote hwr
 have hW := hW.trans hwr
 have hw := hw2
 simp [aFieldAddr, aload, partOf, frame0, g0, g3, g33, g34, g35, g5, hc.box, DCell.row]
 apply hK6
 refine T_rg ?_
 simp [aBin, aBinV, frame0, g0, g3, g33, g34, g35, g5]
 refine ⟨x.cells.length - (i + 1), by omega, i + 1, rfl, by omega, by rw [wrap_i64 (by omega) (by omega)]; rfl, _, ?_, ho, hW⟩
 simpa [flat_take_succ hi, encCell] using hw
 have hge : x.cells.length ≤ i := by simp at c0; omega
 rw [List.take_of_length_le hge] at hw
 refine T_exit ?_
 try simp only [ke, kn, if_true, if_false, Nat.reduceEqDiff, reduceIte]
 apply hK2
 refine T_sr fun K13 hK13 => ?_
 simp [aFieldAddr, aload, partOf, aLen, frame0, g0, g3, g33, g34, g35, ho.box, DImage.row]
 have hnx := Nat.lt_of_lt_of_le hw.lt hw.le
 refine callK.of (wNum _ id lo _ _ _ hw (by simp only [List.length_append, List.length_cons, List.length_nil, encNum_length, encNums_length, encText_length, encVal_length]; omega)) ?_
 rintro _ H2 ⟨rfl, p2, hw2, hwr⟩
 have ho := ho.wrote hwr
 have hW := hW.trans hwr
 have hw := hw2
 simp [aFieldAddr, aload, partOf, aLen, frame0, g0, g3, g33, g34, g35, ho.box, DImage.row]
 apply hK13
 refine T_seqk fun K14 hK14 => ?_
 refine T_sr fun K15 hK15 => ?_
 simp [aFieldAddr, aload, partOf, aLen, frame0, g0, g3, g33, g34, g35, ho.box, DImage.row]
 apply hK15
 refine T_block ?_
 refine T_loop (fun k F H' => ∃ (i : Nat) (p1 : PV), k = x.codes.length - i ∧ i ≤ x.codes.length ∧ F 0 = .ptr id 1 0 0 ∧ F 3 = .ptr H.next 1 0 0 ∧ F 80 = PV.sl c 8 (x.codes.map (DFlat.row c)) ∧ F 81 = pi x.codes.length ∧ F 82 = pi i ∧ W H' id lo (bs ++ [114, 108, 121, 1] ++ encText x.name ++ encNum x.cells.length ++ x.cells.flatMap encCell ++ encNum x.codes.length ++ (x.codes.take i).flatMap encFlat) p1 ∧ Off id p1 H' H.next [x.row c] ∧ Wrote id p p1 H H') (x.codes.length) ?_ ?_
 refine ⟨0, p2, ?_⟩
 simp [g0, g3]
 exact ⟨by simpa using hw, ho, hW⟩
 rintro k F H1 ⟨i, p1, rfl, hile, g0, g3, g80, g81, g82, hw, ho, hW⟩
 refine T_sr fun K16 hK16 => ?_
 simp [aBin, aBinV, frame0, g0, g3, g33, g34, g35, g80, g81, g82]
 apply hK16
 refine T_seqk fun K17 hK17 => ?_
 refine T_cond (rfl) (fun c1 => ?_) (fun c1 => ?_)
 have hi : i < x.codes.length := by simp at c1; omega
 have hfli := flat_take (f := encFlat) hi
 have hgni := flat_ge (f := encFlat) (xs := x.codes) (fun y => by rw [encFlat_length]; omega)
 rw [encFlat_length] at hfli
 refine T_skip ?_
 simp only [kn]
 apply hK17
 refine T_seqk fun K18 hK18 => ?_
 refine T_block ?_
 refine T_mid (fun F H' => F 0 = .ptr id 1 0 0 ∧ F 3 = .ptr H.next 1 0 0 ∧ F 80 = PV.sl c 8 (x.codes.map (DFlat.row c)) ∧ F 81 = pi x.codes.length ∧ F 82 = pi i ∧ F 7 = .ptr H1.next 1 0 0 ∧ H1.Ext H' ∧ H'.box H1.next = some [x.codes[i].row c] ∧ H1.next < H'.next) ?_ ?_
 refine T_rg ?_
 simp [aIndexAddr, aload, aalloc, astore, frame0, g0, g3, g33, g34, g35, g80, g81, g82, sl_get (map_get (f := DFlat.row c) hi), part_flat, splice_flat]
 exact .setBox (Nat.le_refl _) (.bump (.setBox (Nat.le_refl _) (.refl _)))
 rintro F H' ⟨g0, g3, g80, g81, g82, g7, gext, gbox, glt⟩
 have hf := Off.new hw gbox glt
 have hw := hw.ext gext
 have hW := hW.extR gext
 have ho := ho.ext gext
 refine T_sr fun K19 hK19 => ?_
 simp [aFieldAddr, aload, partOf, frame0, g0, g3, g33, g34, g35, g80, g81, g82, g7, hf.box, DFlat.row]
 have hnx := Nat.lt_of_lt_of_le hw.lt hw.le
 refine callK.of (wText _ id lo _ _ _ hw (by simp only [List.length_append, List.length_cons, List.length_nil, encNum_length, encNums_length, encText_length, encVal_length]; omega)) ?_
 rintro _ H2 ⟨rfl, p2, hw2, hwr⟩
 have ho := ho.wrote hwr
 have hf := hf.wrote hwr
 have hW := hW.trans hwr
 have hw := hw2
 simp [aFieldAddr, aload, partOf, frame0, g0, g3, g33, g34, g35, g80, g81, g82, g7, hf.box, DFlat.row]
 apply hK19
 refine T_sr fun K20 hK20 => ?_
 simp [aFieldAddr, aload, partOf, aLen, abuildSlice, frame0, g0, g3, g33, g34, g35, g80, g81, g82, g7, hf.box, DFlat.row, frzR_id]
 have hnx := Nat.lt_of_lt_of_le hw.lt hw.le
 refine callK.of (wNumsM _ id lo _ _ [x.codes[i].what, x.codes[i].cells, x.codes[i].base, x.codes[i].regs, x.codes[i].slots, (x.codes[i].ops.length : Int)] (hw.ext (.bump (.setBox (Nat.le_refl _) (.refl _)))) (by simp only [List.length_append, List.length_cons, List.length_nil, encNum_length, encNums_length, encText_length, encVal_length]; omega) _ (by simp [irow]) (by simp <;> omega) (fun n s e => absurd (hw.out.id_lt e).2 (by simp))) ?_
 rintro _ H2 ⟨rfl, p2, hw2, hwr⟩
 have hwr := hwr.ext (.bump (.setBox (Nat.le_refl _) (.refl _)))
 have ho := ho.wrote hwr
 have hf := hf.wrote hwr
 have hW := hW.trans hwr
 have hw := hw2
 simp [aFieldAddr, aload, partOf, aLen, abuildSlice, frame0, g0, g3, g33, g34, g35, g80, g81, g82, g7, hf.box, DFlat.row, frzR_id]
 apply hK20
 refine T_seqk fun K21 hK21 => ?_
 refine T_sr fun K22 hK22 => ?_
 simp [aFieldAddr, aload, partOf, aLen, frame0, g0, g3, g33, g34, g35, g80, g81, g82, g7, hf.box, DFlat.row]
 apply hK22
 refine T_block ?_
 refine T_loop (fun k F H' => ∃ (j : Nat) (p1 : PV), k = x.codes[i].ops.length - j ∧ j ≤ x.codes[i].ops.length ∧ F 0 = .ptr id 1 0 0 ∧ F 3 = .ptr H.next 1 0 0 ∧ F 80 = PV.sl c 8 (x.codes.map (DFlat.row c)) ∧ F 81 = pi x.codes.length ∧ F 82 = pi i ∧ F 7 = .ptr H1.next 1 0 0 ∧ F 107 = PV.sl c 10 (x.codes[i].ops.map DOp.row) ∧ F 108 = pi x.codes[i].ops.length ∧ F 109 = pi j ∧ W H' id lo (bs ++ [114, 108, 121, 1] ++ encText x.name ++ encNum x.cells.length ++ x.cells.flatMap encCell ++ encNum x.codes.length ++ (x.codes.take i).flatMap encFlat ++ encText x.codes[i].name ++ encNums [x.codes[i].what, x.codes[i].cells, x.codes[i].base, x.codes[i].regs, x.codes[i].slots, (x.codes[i].ops.length : Int)] ++ (x.codes[i].ops.take j).flatMap encOp) p1 ∧ Off id p1 H' H.next [x.row c] ∧ Off id p1 H' H1.next [x.codes[i].row c] ∧ Wrote id p p1 H H') (x.codes[i].ops.length) ?_ ?_
 refine ⟨0, p2, ?_⟩
 simp [g0, g3, g80, g81, g82, g7]
 exact ⟨by simpa using hw, ho, hf, hW⟩
 rintro k F H3 ⟨j, p1, rfl, hile, g0, g3, g80, g81, g82, g7, g107, g108, g109, hw, ho, hf, hW⟩
 refine T_sr fun K23 hK23 => ?_
 simp [aBin, aBinV, frame0, g0, g3, g33, g34, g35, g80, g81, g82, g7, g107, g108, g109]
 apply hK23
 refine T_seqk fun K24 hK24 => ?_
 refine T_cond (rfl) (fun c2 => ?_) (fun c2 => ?_)
 have hj : j < x.codes[i].ops.length := by simp at c2; omega
 have hflj := flat_take (f := encOp) hj
 have hgnj := flat_ge (f := encOp) (xs := x.codes[i].ops) (fun y => by rw [encOp_length]; omega)
 rw [encOp_length] at hflj
 refine T_skip ?_
 simp only [kn]
 apply hK24
 refine T_seqk fun K25 hK25 => ?_
 refine T_block ?_
 refine T_mid (fun F H' => F 0 = .ptr id 1 0 0 ∧ F 3 = .ptr H.next 1 0 0 ∧ F 80 = PV.sl c 8 (x.codes.map (DFlat.row c)) ∧ F 81 = pi x.codes.length ∧ F 82 = pi i ∧ F 7 = .ptr H1.next 1 0 0 ∧ F 107 = PV.sl c 10 (x.codes[i].ops.map DOp.row) ∧ F 108 = pi x.codes[i].ops.length ∧ F 109 = pi j ∧ F 9 = .ptr H3.next 1 0 0 ∧ H3.Ext H' ∧ H'.box H3.next = some [x.codes[i].ops[j].row] ∧ H3.next < H'.next) ?_ ?_
 refine T_rg ?_
 simp [aIndexAddr, aload, aalloc, astore, frame0, g0, g3, g33, g34, g35, g80, g81, g82, g7, g107, g108, g109, sl_get (map_get (f := DOp.row) hj), part_op, splice_op]
 exact .setBox (Nat.le_refl _) (.bump (.setBox (Nat.le_refl _) (.refl _)))
 rintro F H' ⟨g0, g3, g80, g81, g82, g7, g107, g108, g109, g9, gext, gbox, glt⟩
 have hc := Off.new hw gbox glt
 have hw := hw.ext gext
 have hW := hW.extR gext
 have ho := ho.ext gext
 have hf := hf.ext gext
 refine T_sr fun K26 hK26 => ?_
 simp [aFieldAddr, aload, partOf, abuildSlice, frame0, g0, g3, g33, g34, g35, g80, g81, g82, g7, g107, g108, g109, g9, hc.box, DOp.row, frzR_id]
 have hnx := Nat.lt_of_lt_of_le hw.lt hw.le
 refine callK.of (wNumsM _ id lo _ _ [x.codes[i].ops[j].code, x.codes[i].ops[j].a, x.codes[i].ops[j].b, x.codes[i].ops[j].c, x.codes[i].ops[j].d, x.codes[i].ops[j].lo, x.codes[i].ops[j].hi] (hw.ext (.bump (.setBox (Nat.le_refl _) (.refl _)))) (by simp only [List.length_append, List.length_cons, List.length_nil, encNum_length, encNums_length, encText_length, encVal_length]; omega) _ (by simp [irow]) (by simp <;> omega) (fun n s e => absurd (hw.out.id_lt e).2 (by simp))) ?_
 rintro _ H2 ⟨rfl, p2, hw2, hwr⟩
 have hwr := hwr.ext (.bump (.setBox (Nat.le_refl _) (.refl _)))
 have ho := ho.wrote hwr
 have hf := hf.wrote hwr
 have hc := hc.wrote hwr
 have hW := hW.trans hwr
 have hw := hw2
 simp [aFieldAddr, aload, partOf, abuildSlice, frame0, g0, g3, g33, g34, g35, g80, g81, g82, g7, g107, g108, g109, g9, hc.box, DOp.row, frzR_id]
 apply hK26
 refine T_rg ?_
 simp [aFieldAddr, aload, partOf, frame0, g0, g3, g33, g34, g35, g80, g81, g82, g7, g107, g108, g109, g9, hc.box, DOp.row]
 have hnx := Nat.lt_of_lt_of_le hw.lt hw.le
 refine callK.of (wValue _ id lo _ _ x.codes[i].ops[j].value hw (by simp only [List.length_append, List.length_cons, List.length_nil, encNum_length, encNums_length, encText_length, encVal_length]; omega)) ?_
 rintro _ H2 ⟨rfl, p2, hw2, hwr⟩
 have ho := ho.wrote hwr
 have hf := hf.wrote hwr
 have hc := hc.wrote hwr
 have hW := hW.trans hwr
 have hw := hw2
 simp [aFieldAddr, aload, partOf, frame0, g0, g3, g33, g34, g35, g80, g81, g82, g7, g107, g108, g109, g9, hc.box, DOp.row]
 apply hK25
 refine T_rg ?_
 simp [aBin, aBinV, frame0, g0, g3, g33, g34, g35, g80, g81, g82, g7, g107, g108, g109, g9]
 refine ⟨x.codes[i].ops.length - (j + 1), by omega, j + 1, rfl, by omega, by rw [wrap_i64 (by omega) (by omega)]; rfl, _, ?_, ho, hf, hW⟩
 simpa [flat_take_succ hj, encOp] using hw
 have hge : x.codes[i].ops.length ≤ j := by simp at c2; omega
 rw [List.take_of_length_le hge] at hw
 refine T_exit ?_
 try simp only [ke, kn, if_true, if_false, Nat.reduceEqDiff, reduceIte]
 apply hK21
 refine T_sr fun K27 hK27 => ?_
 simp [aFieldAddr, aload, partOf, aLen, frame0, g0, g3, g33, g34, g35, g80, g81, g82, g7, g107, g108, g109, hf.box, DFlat.row]
 have hnx := Nat.lt_of_lt_of_le hw.lt hw.le
 refine callK.of (wNum _ id lo _ _ _ hw (by simp only [List.length_append, List.length_cons, List.length_nil, encNum_length, encNums_length, encText_length, encVal_length]; omega)) ?_
 rintro _ H2 ⟨rfl, p2, hw2, hwr⟩
 have ho := ho.wrote hwr
 have hf := hf.wrote hwr
 have hW := hW.trans hwr
 have hw := hw2
 simp [aFieldAddr, aload, partOf, aLen, frame0, g0, g3, g33, g34, g35, g80, g81, g82, g7, g107, g108, g109, hf.box, DFlat.row]
 apply hK27
 refine T_sr fun K28 hK28 => ?_
 simp [aFieldAddr, aload, partOf, aLen, frame0, g0, g3, g33, g34, g35, g80, g81, g82, g7, g107, g108, g109, hf.box, DFlat.row]
 apply hK28
 refine T_block ?_
 refine T_loop (fun k F H' => ∃ (j : Nat) (p1 : PV), k = x.codes[i].loops.length - j ∧ j ≤ x.codes[i].loops.length ∧ F 0 = .ptr id 1 0 0 ∧ F 3 = .ptr H.next 1 0 0 ∧ F 80 = PV.sl c 8 (x.codes.map (DFlat.row c)) ∧ F 81 = pi x.codes.length ∧ F 82 = pi i ∧ F 7 = .ptr H1.next 1 0 0 ∧ F 141 = PV.sl c 3 (x.codes[i].loops.map DLoop.row) ∧ F 142 = pi x.codes[i].loops.length ∧ F 143 = pi j ∧ W H' id lo (bs ++ [114, 108, 121, 1] ++ encText x.name ++ encNum x.cells.length ++ x.cells.flatMap encCell ++ encNum x.codes.length ++ (x.codes.take i).flatMap encFlat ++ encText x.codes[i].name ++ encNums [x.codes[i].what, x.codes[i].cells, x.codes[i].base, x.codes[i].regs, x.codes[i].slots, (x.codes[i].ops.length : Int)] ++ x.codes[i].ops.flatMap encOp ++ encNum x.codes[i].loops.length ++ (x.codes[i].loops.take j).flatMap encLoop) p1 ∧ Off id p1 H' H.next [x.row c] ∧ Off id p1 H' H1.next [x.codes[i].row c] ∧ Wrote id p p1 H H') (x.codes[i].loops.length) ?_ ?_
 refine ⟨0, p2, ?_⟩
 simp [g0, g3, g80, g81, g82, g7]
 exact ⟨by simpa using hw, ho, hf, hW⟩
 rintro k F H3 ⟨j, p1, rfl, hile, g0, g3, g80, g81, g82, g7, g141, g142, g143, hw, ho, hf, hW⟩
 refine T_sr fun K29 hK29 => ?_
 simp [aBin, aBinV, frame0, g0, g3, g33, g34, g35, g80, g81, g82, g7, g107, g108, g109, g141, g142, g143]
 apply hK29
 refine T_seqk fun K30 hK30 => ?_
 refine T_cond (rfl) (fun c3 => ?_) (fun c3 => ?_)
 have hj : j < x.codes[i].loops.length := by simp at c3; omega
 have hflj := flat_take (f := encLoop) hj
 have hgnj := flat_ge (f := encLoop) (xs := x.codes[i].loops) (fun y => by rw [encLoop_length]; omega)
 rw [encLoop_length] at hflj
 refine T_skip ?_
 simp only [kn]
 apply hK30
 refine T_seqk fun K31 hK31 => ?_
 refine T_block ?_
 refine T_mid (fun F H' => F 0 = .ptr id 1 0 0 ∧ F 3 = .ptr H.next 1 0 0 ∧ F 80 = PV.sl c 8 (x.codes.map (DFlat.row c)) ∧ F 81 = pi x.codes.length ∧ F 82 = pi i ∧ F 7 = .ptr H1.next 1 0 0 ∧ F 141 = PV.sl c 3 (x.codes[i].loops.map DLoop.row) ∧ F 142 = pi x.codes[i].loops.length ∧ F 143 = pi j ∧ F 11 = .ptr H3.next 1 0 0 ∧ H3.Ext H' ∧ H'.box H3.next = some [x.codes[i].loops[j].row] ∧ H3.next < H'.next) ?_ ?_
 refine T_rg ?_
 simp [aIndexAddr, aload, aalloc, astore, frame0, g0, g3, g33, g34, g35, g80, g81, g82, g7, g107, g108, g109, g141, g142, g143, sl_get (map_get (f := DLoop.row) hj), part_loop, splice_loop]
 exact .setBox (Nat.le_refl _) (.bump (.setBox (Nat.le_refl _) (.refl _)))
 rintro F H' ⟨g0, g3, g80, g81, g82, g7, g141, g142, g143, g11, gext, gbox, glt⟩
 have hc := Off.new hw gbox glt
 have hw := hw.ext gext
 have hW := hW.extR gext
 have ho := ho.ext gext
 have hf := hf.ext gext
 refine T_rg ?_
 simp [aFieldAddr, aload, partOf, abuildSlice, frame0, g0, g3, g33, g34, g35, g80, g81, g82, g7, g107, g108, g109, g141, g142, g143, g11, hc.box, DLoop.row, frzR_id]
 have hnx := Nat.lt_of_lt_of_le hw.lt hw.le
 refine callK.of (wNumsM _ id lo _ _ [x.codes[i].loops[j].head, x.codes[i].loops[j].stop, x.codes[i].loops[j].times] (hw.ext (.bump (.setBox (Nat.le_refl _) (.refl _)))) (by simp only [List.length_append, List.length_cons, List.length_nil, encNum_length, encNums_length, encText_length, encVal_length]; omega) _ (by simp [irow]) (by simp <;> omega) (fun n s e => absurd (hw.out.id_lt e).2 (by simp))) ?_
 rintro _ H2 ⟨rfl, p2, hw2, hwr⟩
 have hwr := hwr.ext (.bump (.setBox (Nat.le_refl _) (.refl _)))
 have ho := ho.wrote hwr
 have hf := hf.wrote hwr
 have hc := hc.wrote hwr
 have hW := hW.trans hwr
 have hw := hw2
 simp [aFieldAddr, aload, partOf, abuildSlice, frame0, g0, g3, g33, g34, g35, g80, g81, g82, g7, g107, g108, g109, g141, g142, g143, g11, hc.box, DLoop.row, frzR_id]
 apply hK31
 refine T_rg ?_
 simp [aBin, aBinV, frame0, g0, g3, g33, g34, g35, g80, g81, g82, g7, g107, g108, g109, g141, g142, g143, g11]
 refine ⟨x.codes[i].loops.length - (j + 1), by omega, j + 1, rfl, by omega, by rw [wrap_i64 (by omega) (by omega)]; rfl, _, ?_, ho, hf, hW⟩
 simpa [flat_take_succ hj, encLoop] using hw
 have hge : x.codes[i].loops.length ≤ j := by simp at c3; omega
 rw [List.take_of_length_le hge] at hw
 refine T_exit ?_
 try simp only [ke, kn, if_true, if_false, Nat.reduceEqDiff, reduceIte]
 apply hK18
 refine T_rg ?_
 simp [aBin, aBinV, frame0, g0, g3, g33, g34, g35, g80, g81, g82, g7, g107, g108, g109, g141, g142, g143]
 refine ⟨x.codes.length - (i + 1), by omega, i + 1, rfl, by omega, by rw [wrap_i64 (by omega) (by omega)]; rfl, _, ?_, ho, hW⟩
 simpa [flat_take_succ hi, encFlat] using hw
 have hge : x.codes.length ≤ i := by simp at c1; omega
 rw [List.take_of_length_le hge] at hw
 refine T_exit ?_
 try simp only [ke, kn, if_true, if_false, Nat.reduceEqDiff, reduceIte]
 apply hK14
 refine T_sr fun K32 hK32 => ?_
 simp [aFieldAddr, aload, partOf, aLen, frame0, g0, g3, g33, g34, g35, g80, g81, g82, ho.box, DImage.row]
 have hnx := Nat.lt_of_lt_of_le hw.lt hw.le
 refine callK.of (wNum _ id lo _ _ _ hw (by simp only [List.length_append, List.length_cons, List.length_nil, encNum_length, encNums_length, encText_length, encVal_length]; omega)) ?_
 rintro _ H2 ⟨rfl, p2, hw2, hwr⟩
 have ho := ho.wrote hwr
 have hW := hW.trans hwr
 have hw := hw2
 simp [aFieldAddr, aload, partOf, aLen, frame0, g0, g3, g33, g34, g35, g80, g81, g82, ho.box, DImage.row]
 apply hK32
 refine T_sr fun K33 hK33 => ?_
 simp [aFieldAddr, aload, partOf, aLen, frame0, g0, g3, g33, g34, g35, g80, g81, g82, ho.box, DImage.row]
 apply hK33
 refine T_block ?_
 refine T_loop (fun k F H' => ∃ (i : Nat) (p1 : PV), k = x.jobs.length - i ∧ i ≤ x.jobs.length ∧ F 0 = .ptr id 1 0 0 ∧ F 3 = .ptr H.next 1 0 0 ∧ F 164 = PV.sl c 7 (x.jobs.map (DJob.row c)) ∧ F 165 = pi x.jobs.length ∧ F 166 = pi i ∧ W H' id lo (bs ++ [114, 108, 121, 1] ++ encText x.name ++ encNum x.cells.length ++ x.cells.flatMap encCell ++ encNum x.codes.length ++ x.codes.flatMap encFlat ++ encNum x.jobs.length ++ (x.jobs.take i).flatMap encJob) p1 ∧ Off id p1 H' H.next [x.row c] ∧ Wrote id p p1 H H') (x.jobs.length) ?_ ?_
 refine ⟨0, p2, ?_⟩
 simp [g0, g3]
 exact ⟨by simpa using hw, ho, hW⟩
 rintro k F H1 ⟨i, p1, rfl, hile, g0, g3, g164, g165, g166, hw, ho, hW⟩
 refine T_sr fun K34 hK34 => ?_
 simp [aBin, aBinV, frame0, g0, g3, g33, g34, g35, g80, g81, g82, g164, g165, g166]
 apply hK34
 refine T_seqk fun K35 hK35 => ?_
 refine T_cond (rfl) (fun c4 => ?_) (fun c4 => ?_)
 have hi : i < x.jobs.length := by simp at c4; omega
 have hfli := flat_take (f := encJob) hi
 have hgni := flat_ge (f := encJob) (xs := x.jobs) (fun y => by rw [encJob_length]; omega)
 rw [encJob_length] at hfli
 refine T_skip ?_
 simp only [kn]
 apply hK35
 refine T_seqk fun K36 hK36 => ?_
 refine T_block ?_
 refine T_mid (fun F H' => F 0 = .ptr id 1 0 0 ∧ F 3 = .ptr H.next 1 0 0 ∧ F 164 = PV.sl c 7 (x.jobs.map (DJob.row c)) ∧ F 165 = pi x.jobs.length ∧ F 166 = pi i ∧ F 13 = .ptr H1.next 1 0 0 ∧ H1.Ext H' ∧ H'.box H1.next = some [x.jobs[i].row c] ∧ H1.next < H'.next) ?_ ?_
 refine T_rg ?_
 simp [aIndexAddr, aload, aalloc, astore, frame0, g0, g3, g33, g34, g35, g80, g81, g82, g164, g165, g166, sl_get (map_get (f := DJob.row c) hi), part_job, splice_job]
 exact .setBox (Nat.le_refl _) (.bump (.setBox (Nat.le_refl _) (.refl _)))
 rintro F H' ⟨g0, g3, g164, g165, g166, g13, gext, gbox, glt⟩
 have hc := Off.new hw gbox glt
 have hw := hw.ext gext
 have hW := hW.extR gext
 have ho := ho.ext gext
 refine T_sr fun K37 hK37 => ?_
 simp [aFieldAddr, aload, partOf, frame0, g0, g3, g33, g34, g35, g80, g81, g82, g164, g165, g166, g13, hc.box, DJob.row]
 have hnx := Nat.lt_of_lt_of_le hw.lt hw.le
 refine callK.of (wText _ id lo _ _ _ hw (by simp only [List.length_append, List.length_cons, List.length_nil, encNum_length, encNums_length, encText_length, encVal_length]; omega)) ?_
 rintro _ H2 ⟨rfl, p2, hw2, hwr⟩
 have ho := ho.wrote hwr
 have hc := hc.wrote hwr
 have hW := hW.trans hwr
 have hw := hw2
 simp [aFieldAddr, aload, partOf, frame0, g0, g3, g33, g34, g35, g80, g81, g82, g164, g165, g166, g13, hc.box, DJob.row]
 apply hK37
 refine T_sr fun K38 hK38 => ?_
 simp [aFieldAddr, aload, partOf, aLen, abuildSlice, frame0, g0, g3, g33, g34, g35, g80, g81, g82, g164, g165, g166, g13, hc.box, DJob.row, frzR_id]
 have hnx := Nat.lt_of_lt_of_le hw.lt hw.le
 refine callK.of (wNumsM _ id lo _ _ [x.jobs[i].interval, x.jobs[i].single, x.jobs[i].priority, (x.jobs[i].codes.length : Int)] (hw.ext (.bump (.setBox (Nat.le_refl _) (.refl _)))) (by simp only [List.length_append, List.length_cons, List.length_nil, encNum_length, encNums_length, encText_length, encVal_length]; omega) _ (by simp [irow]) (by simp <;> omega) (fun n s e => absurd (hw.out.id_lt e).2 (by simp))) ?_
 rintro _ H2 ⟨rfl, p2, hw2, hwr⟩
 have hwr := hwr.ext (.bump (.setBox (Nat.le_refl _) (.refl _)))
 have ho := ho.wrote hwr
 have hc := hc.wrote hwr
 have hW := hW.trans hwr
 have hw := hw2
 simp [aFieldAddr, aload, partOf, aLen, abuildSlice, frame0, g0, g3, g33, g34, g35, g80, g81, g82, g164, g165, g166, g13, hc.box, DJob.row, frzR_id]
 apply hK38
 refine T_sr fun K39 hK39 => ?_
 simp [aFieldAddr, aload, partOf, frame0, g0, g3, g33, g34, g35, g80, g81, g82, g164, g165, g166, g13, hc.box, DJob.row]
 have hnx := Nat.lt_of_lt_of_le hw.lt hw.le
 refine callK.of (wNumsF _ id lo _ _ x.jobs[i].codes hw (by simp only [List.length_append, List.length_cons, List.length_nil, encNum_length, encNums_length, encText_length, encVal_length]; omega) _) ?_
 rintro _ H2 ⟨rfl, p2, hw2, hwr⟩
 have ho := ho.wrote hwr
 have hc := hc.wrote hwr
 have hW := hW.trans hwr
 have hw := hw2
 simp [aFieldAddr, aload, partOf, frame0, g0, g3, g33, g34, g35, g80, g81, g82, g164, g165, g166, g13, hc.box, DJob.row]
 apply hK39
 refine T_sr fun K40 hK40 => ?_
 simp [aFieldAddr, aload, partOf, aLen, frame0, g0, g3, g33, g34, g35, g80, g81, g82, g164, g165, g166, g13, hc.box, DJob.row]
 have hnx := Nat.lt_of_lt_of_le hw.lt hw.le
 refine callK.of (wNum _ id lo _ _ _ hw (by simp only [List.length_append, List.length_cons, List.length_nil, encNum_length, encNums_length, encText_length, encVal_length]; omega)) ?_
 rintro _ H2 ⟨rfl, p2, hw2, hwr⟩
 have ho := ho.wrote hwr
 have hc := hc.wrote hwr
 have hW := hW.trans hwr
 have hw := hw2
 simp [aFieldAddr, aload, partOf, aLen, frame0, g0, g3, g33, g34, g35, g80, g81, g82, g164, g165, g166, g13, hc.box, DJob.row]
 apply hK40
 refine T_sr fun K41 hK41 => ?_
 simp [aFieldAddr, aload, partOf, frame0, g0, g3, g33, g34, g35, g80, g81, g82, g164, g165, g166, g13, hc.box, DJob.row]
 have hnx := Nat.lt_of_lt_of_le hw.lt hw.le
 refine callK.of (wNumsF _ id lo _ _ x.jobs[i].bases hw (by simp only [List.length_append, List.length_cons, List.length_nil, encNum_length, encNums_length, encText_length, encVal_length]; omega) _) ?_
 rintro _ H2 ⟨rfl, p2, hw2, hwr⟩
 have ho := ho.wrote hwr
 have hc := hc.wrote hwr
 have hW := hW.trans hwr
 have hw := hw2
 simp [aFieldAddr, aload, partOf, frame0, g0, g3, g33, g34, g35, g80, g81, g82, g164, g165, g166, g13, hc.box, DJob.row]
 apply hK41
 refine T_rg ?_
 simp [aFieldAddr, aload, partOf, frame0, g0, g3, g33, g34, g35, g80, g81, g82, g164, g165, g166, g13, hc.box, DJob.row]
 have hnx := Nat.lt_of_lt_of_le hw.lt hw.le
 refine callK.of (wNum _ id lo _ _ _ hw (by simp only [List.length_append, List.length_cons, List.length_nil, encNum_length, encNums_length, encText_length, encVal_length]; omega)) ?_
 rintro _ H2 ⟨rfl, p2, hw2, hwr⟩
 have ho := ho.wrote hwr
 have hc := hc.wrote hwr
 have hW := hW.trans hwr
 have hw := hw2
 simp [aFieldAddr, aload, partOf, frame0, g0, g3, g33, g34, g35, g80, g81, g82, g164, g165, g166, g13, hc.box, DJob.row]
 apply hK36
 refine T_rg ?_
 simp [aBin, aBinV, frame0, g0, g3, g33, g34, g35, g80, g81, g82, g164, g165, g166, g13]
 refine ⟨x.jobs.length - (i + 1), by omega, i + 1, rfl, by omega, by rw [wrap_i64 (by omega) (by omega)]; rfl, _, ?_, ho, hW⟩
 simpa [flat_take_succ hi, encJob] using hw
 have hge : x.jobs.length ≤ i := by simp at c4; omega
 rw [List.take_of_length_le hge] at hw
 refine T_exit ?_
 try simp only [ke, kn, if_true, if_false, Nat.reduceEqDiff, reduceIte]
 refine owesO_none (.inl rfl) rfl ⟨rfl, p1, ?_, hW⟩
 simpa [encImage] using hw
def v32 (c : BitVec 32) : PV := .val (.int .u32 (c.toNat : Int))
@[simp] theorem cells_v32 (c : BitVec 32) : (v32 c).cells = [v32 c] := rfl
@[simp] theorem okCells_v32 (c : BitVec 32) : (v32 c).okCells = true := rfl
@[simp] theorem atomic_v32 (c : BitVec 32) : (v32 c).atomic = true := rfl
@[simp] theorem frozen_v32 (c : BitVec 32) : Frozen (v32 c) := trivial
@[simp] theorem below_v32 (n : Nat) (c : BitVec 32) : Below n (v32 c) := .val _
theorem u32_wrap_toNat (c : BitVec 32) : IntKind.u32.wrap (c.toNat : Int) = c.toNat := by
 have := c.isLt
 unfold IntKind.wrap; simp [IntKind.bits, IntKind.signed]; omega
theorem ofInt_toNat (c : BitVec 32) : BitVec.ofInt 32 (c.toNat : Int) = c := by
 apply BitVec.eq_of_toInt_eq; simp [BitVec.toInt_ofInt, BitVec.toInt_eq_toNat_bmod]
theorem and32 (c : BitVec 32) (b : Int) : aBinV .and (.int .u32 c.toNat) (.int .u32 b) = some (.int .u32 ((c &&& BitVec.ofInt 32 b).toNat : Int)) := by
 show (if IntKind.u32 = IntKind.u32 then some (Value.int .u32 (IntKind.u32.wrap ((BitVec.ofInt 32 (c.toNat : Int) &&& BitVec.ofInt 32 b).toNat : Int))) else none) = _
 rw [if_pos rfl, ofInt_toNat, u32_wrap_toNat]
theorem xor32 (c : BitVec 32) (b : Int) : aBinV .xor (.int .u32 c.toNat) (.int .u32 b) = some (.int .u32 ((c ^^^ BitVec.ofInt 32 b).toNat : Int)) := by
 show (if IntKind.u32 = IntKind.u32 then some (Value.int .u32 (IntKind.u32.wrap ((BitVec.ofInt 32 (c.toNat : Int) ^^^ BitVec.ofInt 32 b).toNat : Int))) else none) = _
 rw [if_pos rfl, ofInt_toNat, u32_wrap_toNat]
theorem shr32 (c : BitVec 32) (k : IntKind) (n : Nat) (hn : n < 32) : aBinV .shr (.int .u32 c.toNat) (.int k (n : Int)) = some (.int .u32 ((c >>> n).toNat : Int)) := by
 show (if 0 ≤ (n : Int) then some (Value.int .u32 ((c.toNat : Int).fdiv (2 ^ min (n : Int).toNat 32))) else none) = _
 rw [if_pos (by omega), show min (n : Int).toNat 32 = n by omega, BitVec.toNat_ushiftRight, Nat.shiftRight_eq_div_pow]
 congr 2
 rw [Int.fdiv_eq_ediv_of_nonneg _ (by have : (0 : Int) < 2 ^ n := Int.pow_pos (by omega)
                                      omega)]
 rw [Int.natCast_ediv, Int.natCast_pow]; rfl
theorem not32 (c : BitVec 32) : aUn .xor (v32 c) = some (v32 (~~~ c)) := by
 show some (PV.val (.int .u32 (IntKind.u32.wrap ((BitVec.ofInt 32 (IntKind.u32.max) ^^^ BitVec.ofInt 32 (c.toNat : Int)).toNat : Int)))) = _
 rw [ofInt_toNat, u32_wrap_toNat]
 rw [show BitVec.ofInt 32 IntKind.u32.max = BitVec.allOnes 32 by decide, BitVec.allOnes_xor]
 rfl
theorem eq32 (k : IntKind) (a b : Int) : aBinV .eql (.int k a) (.int k b) = some (.bool (a == b)) := by simp [aBinV]
theorem xor8 (a b : Nat) (ha : a < 256) (hb : b < 256) : aBinV .xor (.int .u8 (a : Int)) (.int .u8 (b : Int)) = some (.int .u8 ((a ^^^ b : Nat) : Int)) := by
 have hx : a ^^^ b < 2 ^ 8 := Nat.xor_lt_two_pow ha hb
 show (if IntKind.u8 = IntKind.u8 then some (Value.int .u8 (IntKind.u8.wrap ((BitVec.ofInt 8 (a : Int) ^^^ BitVec.ofInt 8 (b : Int)).toNat : Int))) else none) = _
 rw [if_pos rfl]
 congr 2
 rw [BitVec.toNat_xor]
 simp only [BitVec.toNat_ofInt]
 rw [wrap_u8 (by omega) (by
  have e1 : ((a : Int) % ((2 ^ 8 : Nat) : Int)).toNat = a := by omega
  have e2 : ((b : Int) % ((2 ^ 8 : Nat) : Int)).toNat = b := by omega
  rw [e1, e2]; omega)]
 have e1 : ((a : Int) % ((2 ^ 8 : Nat) : Int)).toNat = a := by omega
 have e2 : ((b : Int) % ((2 ^ 8 : Nat) : Int)).toNat = b := by omega
 rw [e1, e2]
theorem u32_wrap_small {i : Nat} (h : i < 256) : IntKind.u32.wrap (i : Int) = (((BitVec.ofNat 32 i).toNat : Nat) : Int) := by
 have e : (BitVec.ofNat 32 i).toNat = i := by rw [BitVec.toNat_ofNat]; omega
 conv => lhs; rw [← e]
 exact u32_wrap_toNat _
theorem bin_and32 (P : Program) (t : TypeId) (c : BitVec 32) (b : Int) : aBin P .and t (v32 c) (.val (.int .u32 b)) = some (v32 (c &&& BitVec.ofInt 32 b)) := by
 show (aBinV .and (.int .u32 c.toNat) (.int .u32 b)).map PV.val = _; rw [and32]; rfl
theorem bin_xor32 (P : Program) (t : TypeId) (c : BitVec 32) (b : Int) : aBin P .xor t (v32 c) (.val (.int .u32 b)) = some (v32 (c ^^^ BitVec.ofInt 32 b)) := by
 show (aBinV .xor (.int .u32 c.toNat) (.int .u32 b)).map PV.val = _; rw [xor32]; rfl
theorem bin_xor32v (P : Program) (t : TypeId) (c d : BitVec 32) : aBin P .xor t (v32 c) (v32 d) = some (v32 (c ^^^ d)) := by
 show (aBinV .xor (.int .u32 c.toNat) (.int .u32 d.toNat)).map PV.val = _; rw [xor32, ofInt_toNat]; rfl
theorem bin_shr32 (P : Program) (t : TypeId) (c : BitVec 32) (k : IntKind) (n : Nat) (hn : n < 32) : aBin P .shr t (v32 c) (.val (.int k (n : Int))) = some (v32 (c >>> n)) := by
 show (aBinV .shr (.int .u32 c.toNat) (.int k n)).map PV.val = _; rw [shr32 c k n hn]; rfl
theorem bin_shr32_1 (P : Program) (t : TypeId) (c : BitVec 32) (k : IntKind) : aBin P .shr t (v32 c) (.val (.int k 1)) = some (v32 (c >>> 1)) := bin_shr32 P t c k 1 (by decide)
theorem bin_shr32_8 (P : Program) (t : TypeId) (c : BitVec 32) (k : IntKind) : aBin P .shr t (v32 c) (.val (.int k 8)) = some (v32 (c >>> 8)) := bin_shr32 P t c k 8 (by decide)
theorem bin_shr32_16 (P : Program) (t : TypeId) (c : BitVec 32) (k : IntKind) : aBin P .shr t (v32 c) (.val (.int k 16)) = some (v32 (c >>> 16)) := bin_shr32 P t c k 16 (by decide)
theorem bin_shr32_24 (P : Program) (t : TypeId) (c : BitVec 32) (k : IntKind) : aBin P .shr t (v32 c) (.val (.int k 24)) = some (v32 (c >>> 24)) := bin_shr32 P t c k 24 (by decide)
theorem bin_eq32_1 (P : Program) (t : TypeId) (c : BitVec 32) : aBin P .eql t (v32 c) (.val (.int .u32 1)) = some (pb (decide (c = 1))) := by
 show (aBinV .eql (.int .u32 c.toNat) (.int .u32 1)).map PV.val = _
 rw [eq32]
 have : ((c.toNat : Int) == 1) = decide (c = 1) := by
  rw [int_beq, decide_eq_decide]
  constructor
  ·intro h; apply BitVec.eq_of_toNat_eq; show c.toNat = 1; omega
  ·rintro rfl; rfl
 rw [this]; rfl
theorem conv_v32 (n : Nat) (h : n < 256) : aConvert Tryz.prog 3 65 (pi n) = some (v32 (BitVec.ofNat 32 n)) := by
 simp [aConvert, v32]; exact u32_wrap_small h
def crcStep (c : BitVec 32) : BitVec 32 := if c &&& 1 = 1 then (c >>> 1) ^^^ 0xedb88320 else c >>> 1
theorem crcStep_pos {c : BitVec 32} (h : c &&& 1 = 1) : crcStep c = (c >>> 1) ^^^ 0xedb88320 := if_pos h
theorem crcStep_neg {c : BitVec 32} (h : ¬ c &&& 1 = 1) : crcStep c = c >>> 1 := if_neg h
def rep (f : BitVec 32 → BitVec 32) : Nat → BitVec 32 → BitVec 32
 | 0, c => c
 | n + 1, c => f (rep f n c)
def tabOf (i : Nat) : BitVec 32 := rep crcStep 8 (BitVec.ofNat 32 i)
def tabTo (i : Nat) : List PV := (List.range 256).map fun m => if m < i then v32 (tabOf m) else .val (.int .u32 0)
def tabRow : List PV := (List.range 256).map fun m => v32 (tabOf m)
theorem tabTo_zero : zeros256 = tabTo 0 := by kernel_rfl
theorem tabTo_all : tabTo 256 = tabRow := by
 unfold tabTo tabRow
 apply List.map_congr_left
 intro m hm
 rw [if_pos (by simpa using hm)]
@[simp] theorem tabTo_length (i : Nat) : (tabTo i).length = 256 := by simp [tabTo]
@[simp] theorem tabRow_length : tabRow.length = 256 := by simp [tabRow]
theorem tabTo_succ {i : Nat} (h : i < 256) : splice (tabTo i) i [v32 (tabOf i)] = tabTo (i + 1) := by
 apply List.ext_getElem?
 intro m
 unfold splice
 rw [List.getElem?_append, List.getElem?_append]
 simp only [tabTo, List.length_take, List.length_map, List.length_range, List.length_append, List.length_cons, List.length_nil, List.getElem?_take, List.getElem?_map, List.getElem?_drop]
 by_cases h1 : m < i
 have h256 : m < 256 := by omega
 simp [h1, h256, Nat.min_eq_left (Nat.le_of_lt h), show m < i + 1 by omega, List.getElem?_range h256]
 by_cases h2 : m = i
 subst h2
 simp [Nat.min_eq_left (Nat.le_of_lt h), List.getElem?_range h]
 have h3 : ¬ m < i + 1 := by omega
 have h4 : ∀ o : Option Nat, (∀ q, o = some q → q = m) → Option.map (fun m => if m < i then v32 (tabOf m) else PV.val (Value.int IntKind.u32 0)) o = Option.map (fun m => if m < i + 1 then v32 (tabOf m) else PV.val (Value.int IntKind.u32 0)) o := by
  rintro (_ | q) hq
  ·rfl
  ·have := hq q rfl; subst this; simp [h1, h3]
 simp only [Nat.min_eq_left (Nat.le_of_lt h), h1, h3, if_false, show i + (0 + 1) + (m - (i + (0 + 1))) = m by omega, show ¬ m < i + (0 + 1) by omega]
 refine h4 _ fun q hq => ?_
 by_cases hm : m < 256
 rw [List.getElem?_range hm] at hq; exact (Option.some.inj hq).symm
 rw [List.getElem?_eq_none (by simp; omega)] at hq; cases hq
theorem tableIs (H : AS)  : ACalls Tryz.prog 50 [] H fun q H' => q = .agg tabRow ∧ H' = H := by
 refine ACalls_intro Tryz.func50 rfl (by kernel_rfl) (by simp) fun hwf hbel => ?_
 refine T_sr fun K0 hK0 => ?_
 simp [aalloc, frame0]
 apply hK0
 refine T_sr fun K1 hK1 => ?_
 simp [aalloc, frame0]
 apply hK1
 refine T_seqk fun K2 hK2 => ?_
 refine T_sr fun K3 hK3 => ?_
 simp [frame0]
 apply hK3
 refine T_block ?_
 refine T_loop (fun k F H' => ∃ i : Nat, k = 256 - i ∧ i ≤ 256 ∧ F 0 = .ptr H.next 1 0 0 ∧ F 1 = .ptr (H.next + 1) 1 0 0 ∧ F 5 = pi i ∧ H'.box H.next = some [zeros256] ∧ H'.box (H.next + 1) = some [tabTo i] ∧ H.Ext H' ∧ H'.next = H.next + 2) (256) ?_ ?_
 refine ⟨0, ?_⟩
 simp [frame0, tabTo_zero]
 exact .bump (.setBox (by simp) (.bump (.setBox (Nat.le_refl _) (.refl _))))
 rintro k F H1 ⟨i, rfl, hile, g0, g1, g5, b0, b1, hext, hn⟩
 refine T_sr fun K4 hK4 => ?_
 simp [aBin, aBinV, frame0, g0, g1, g5]
 apply hK4
 refine T_seqk fun K5 hK5 => ?_
 refine T_cond (rfl) (fun c0 => ?_) (fun c0 => ?_)
 have hlt : i < 256 := by simp at c0; omega
 have hlt2 : (i : Int) < 256 := by omega
 have hlt3 : i ≤ 255 := by omega
 refine T_skip ?_
 simp only [kn]
 apply hK5
 refine T_seqk fun K6 hK6 => ?_
 refine T_block ?_
 refine T_sr fun K7 hK7 => ?_
 simp [frame0, g0, g1, g5]
 apply hK7
 refine T_sr fun K8 hK8 => ?_
 simp [frame0, g0, g1, g5, conv_v32 i hlt]
 apply hK8
 refine T_seqk fun K9 hK9 => ?_
 refine T_sr fun K10 hK10 => ?_
 simp [frame0, g0, g1, g5]
 apply hK10
 refine T_block ?_
 refine T_loop (fun k F H' => ∃ j : Nat, k = 8 - j ∧ j ≤ 8 ∧ F 0 = .ptr H.next 1 0 0 ∧ F 1 = .ptr (H.next + 1) 1 0 0 ∧ F 5 = pi i ∧ F 2 = pi i ∧ F 10 = pi j ∧ F 3 = v32 (rep crcStep j (BitVec.ofNat 32 i)) ∧ H' = H1) (8) ?_ ?_
 refine ⟨0, ?_⟩
 simp [g0, g1, g5, rep]
 rintro k F H2 ⟨j, rfl, hjle, g0, g1, g5, g2, g10, g3, rfl⟩
 refine T_sr fun K11 hK11 => ?_
 simp [aBin, aBinV, frame0, g0, g1, g5, g2, g10, g3]
 apply hK11
 refine T_seqk fun K12 hK12 => ?_
 refine T_cond (rfl) (fun c1 => ?_) (fun c1 => ?_)
 have hj8 : j < 8 := by simp at c1; omega
 refine T_skip ?_
 simp only [kn]
 apply hK12
 refine T_seqk fun K13 hK13 => ?_
 refine T_block ?_
 refine T_sr fun K14 hK14 => ?_
 simp [frame0, g0, g1, g5, g2, g10, g3, bin_and32, bin_eq32_1]
 apply hK14
 refine T_sr fun K15 hK15 => ?_
 simp [frame0, g0, g1, g5, g2, g10, g3, bin_shr32_1]
 apply hK15
 refine T_sr fun K16 hK16 => ?_
 simp [frame0, g0, g1, g5, g2, g10, g3]
 apply hK16
 refine T_cond (rfl) (fun c2 => ?_) (fun c2 => ?_)
 refine T_rg ?_
 simp [frame0, g0, g1, g5, g2, g10, g3, bin_xor32]
 apply hK13
 refine T_rg ?_
 simp [aBin, aBinV, frame0, g0, g1, g5, g2, g10, g3]
 refine ⟨8 - (j + 1), by omega, j + 1, rfl, by omega, by rw [wrap_i64 (by omega) (by omega)]; rfl, ?_⟩
 show _ = v32 (crcStep (rep crcStep j (BitVec.ofNat 32 i)))
 first | rw [crcStep_pos (of_decide_eq_true c2)]; rfl | rw [crcStep_neg (of_decide_eq_false c2)]
 refine T_skip ?_
 simp only [kn]
 apply hK13
 refine T_rg ?_
 simp [aBin, aBinV, frame0, g0, g1, g5, g2, g10, g3]
 refine ⟨8 - (j + 1), by omega, j + 1, rfl, by omega, by rw [wrap_i64 (by omega) (by omega)]; rfl, ?_⟩
 show _ = v32 (crcStep (rep crcStep j (BitVec.ofNat 32 i)))
 first | rw [crcStep_pos (of_decide_eq_true c2)]; rfl | rw [crcStep_neg (of_decide_eq_false c2)]
 have hj8 : j = 8 := by simp at c1; omega
 subst hj8
 refine T_exit ?_
 try simp only [ke, kn, if_true, if_false, Nat.reduceEqDiff, reduceIte]
 apply hK9
 refine T_rg ?_
 simp [aIndexAddr, astore, frame0, g0, g1, g5, g2, g10, g3, b1, hlt2, hlt3]
 apply hK6
 refine T_rg ?_
 simp [aBin, aBinV, frame0, g0, g1, g5, g2, g10, g3]
 refine ⟨256 - (i + 1), by omega, i + 1, rfl, by omega, by rw [wrap_i64 (by omega) (by omega)]; rfl, b0, tabTo_succ hlt, .setBox (by omega) hext, hn⟩
 have hge : i = 256 := by simp at c0; omega
 subst hge
 refine T_exit ?_
 try simp only [ke, kn, if_true, if_false, Nat.reduceEqDiff, reduceIte]
 apply hK2
 refine T_sr fun K17 hK17 => ?_
 simp [aload, partOf, astore, frame0, g0, g1, g5, b0, b1]
 apply hK17
 refine T_ret ?_
 try simp only [kr]
 have e : splice zeros256 0 (List.take 256 (tabTo 256)) = tabRow := by
  rw [List.take_of_length_le (by simp), tabTo_all]; unfold splice; rw [List.drop_eq_nil_of_le (by simp)]; simp
 rw [e]
 refine owes_one (.inr rfl) hwf (r := .agg tabRow) (by rw [show Tryz.f50.results.toList = [.cell 0 98] from rfl]; simp [aResults, aload, partOf, g0, g1, List.take_of_length_le]) rfl (.setBox (Nat.le_refl _) hext) ?_ ?_
 exact ⟨fun cs h x hx => by cases h; obtain ⟨m, _, rfl⟩ := List.mem_map.1 hx; exact frozen_v32 _, trivial⟩
 exact .agg fun x hx => by obtain ⟨m, _, rfl⟩ := List.mem_map.1 hx; exact below_v32 _ _
def b8 (b : UInt8) : PV := .val (.int .u8 (b.toNat : Int))
theorem brow_b8 (b : UInt8) : brow b = [b8 b] := rfl
@[simp] theorem cells_b8 (b : UInt8) : (b8 b).cells = [b8 b] := rfl
@[simp] theorem okCells_b8 (b : UInt8) : (b8 b).okCells = true := rfl
@[simp] theorem atomic_b8 (b : UInt8) : (b8 b).atomic = true := rfl
@[simp] theorem frozen_b8 (b : UInt8) : Frozen (b8 b) := trivial
@[simp] theorem below_b8 (n : Nat) (b : UInt8) : Below n (b8 b) := .val _
@[simp] theorem v32_agg (c : BitVec 32) (cs : List PV) : (v32 c = PV.agg cs) = False := by simp [v32]
@[simp] theorem b8_agg (b : UInt8) (cs : List PV) : (b8 b = PV.agg cs) = False := by simp [b8]
theorem build4 (a b c d : UInt8) : aBuild Tryz.prog 100 [(0, b8 a), (1, b8 b), (2, b8 c), (3, b8 d)] = some (.agg [b8 a, b8 b, b8 c, b8 d]) := by
 have h : Tryz.prog.underlying 100 = some (.array 4 5) := by kernel_rfl
 simp [aBuild, h, aBuild.go, arrFields, splice, Array.range]
 exact ⟨by decide, rfl⟩
theorem part_byte (b : UInt8) : partOf Tryz.prog 5 (brow b) 0 = some (b8 b) := by simp [partOf, brow, b8]
def lowByte (c : BitVec 32) : UInt8 := UInt8.ofNat c.toNat
def xorByte (a b : UInt8) : UInt8 := a ^^^ b
theorem conv_b8 (c : BitVec 32) : aConvert Tryz.prog 65 5 (v32 c) = some (b8 (lowByte c)) := by
 unfold lowByte
 simp [aConvert, v32, b8]
 rw [u8_wrap, show byteOf (c.toNat : Int) = UInt8.ofNat c.toNat from UInt8.toNat_inj.1 (by unfold byteOf; rw [UInt8.toNat_ofNat', UInt8.toNat_ofNat']; omega)]
 rfl
theorem bin_xor8 (P : Program) (t : TypeId) (a b : UInt8) : aBin P .xor t (b8 a) (b8 b) = some (b8 (xorByte a b)) := by
 unfold xorByte
 show (aBinV .xor (.int .u8 a.toNat) (.int .u8 b.toNat)).map PV.val = _
 rw [xor8 _ _ a.toNat_lt b.toNat_lt, ← UInt8.toNat_xor]; rfl
theorem idx_tab (id : Nat) (x : UInt8) : aIndexAddr Tryz.prog 98 (.ptr id 1 0 0) (b8 x) = some (.ptr id 1 0 x.toNat) := by
 have := x.toNat_lt
 simp [aIndexAddr, b8]; omega
theorem load_tab {H : AS} {id : Nat} (h : H.box id = some [tabRow]) (x : UInt8) : aload Tryz.prog H 65 (.ptr id 1 0 x.toNat) = some (v32 (tabOf x.toNat)) := by
 have := x.toNat_lt
 have e : tabRow[x.toNat]? = some (v32 (tabOf x.toNat)) := by unfold tabRow; rw [List.getElem?_map, List.getElem?_range (by omega)]; rfl
 simp [aload, h, partOf, e]
def crcNext (c : BitVec 32) (x : UInt8) : BitVec 32 := (c >>> 8) ^^^ tabOf (xorByte (lowByte c) x).toNat
def crcFold (bs : List UInt8) : BitVec 32 := bs.foldl crcNext (BitVec.allOnes 32)
def crc (bs : List UInt8) : BitVec 32 := ~~~ crcFold bs
theorem crcFold_take {bs : List UInt8} {i : Nat} (h : i < bs.length) : crcFold (bs.take (i + 1)) = crcNext (crcFold (bs.take i)) bs[i] := by
 unfold crcFold; rw [List.take_succ_eq_append_getElem h, List.foldl_append]; rfl
theorem splice_tab : splice zeros256 0 tabRow = tabRow := by unfold splice; rw [List.drop_eq_nil_of_le (by simp)]; simp
theorem sumFrozen (H : AS) (bs : List UInt8) (hb : bs.length < 2 ^ 62) (c : Nat) : ACalls Tryz.prog 18 [PV.sl c 1 (bs.map brow)] H fun q H' => q = v32 (crc bs) ∧ H' = H := by
 refine ACalls_intro Tryz.func18 rfl (by kernel_rfl) (by simp) fun hwf hbel => ?_
 refine T_sr fun K0 hK0 => ?_
 simp [frame0]
 apply hK0
 refine T_sr fun K1 hK1 => ?_
 simp [aalloc, astore, frame0, splice_tab]
 refine callK.of (tableIs _) ?_
 rintro _ Hz ⟨rfl, hz⟩
 subst Hz
 simp [aalloc, astore, frame0, splice_tab]
 apply hK1
 refine T_sr fun K2 hK2 => ?_
 simp [frame0]
 apply hK2
 refine T_seqk fun K3 hK3 => ?_
 refine T_sr fun K4 hK4 => ?_
 simp [aLen, frame0]
 apply hK4
 refine T_block ?_
 refine T_loop (fun k F H' => ∃ i : Nat, k = bs.length - i ∧ i ≤ bs.length ∧ F 3 = .ptr H.next 1 0 0 ∧ F 8 = PV.sl c 1 (bs.map brow) ∧ F 9 = pi bs.length ∧ F 10 = pi i ∧ F 4 = v32 (crcFold (bs.take i)) ∧ H'.box H.next = some [tabRow] ∧ H.Ext H') (bs.length) ?_ ?_
 refine ⟨0, ?_⟩
 simp [frame0]
 exact ⟨rfl, .setBox (Nat.le_refl _) (.bump (.setBox (Nat.le_refl _) (.refl _)))⟩
 rintro k F H1 ⟨i, rfl, hile, g3, g8, g9, g10, g4, b3, hext⟩
 refine T_sr fun K5 hK5 => ?_
 simp [aBin, aBinV, frame0, g3, g8, g9, g10, g4]
 apply hK5
 refine T_seqk fun K6 hK6 => ?_
 refine T_cond (rfl) (fun c0 => ?_) (fun c0 => ?_)
 have hlt : i < bs.length := by simp at c0; omega
 refine T_skip ?_
 simp only [kn]
 apply hK6
 refine T_seqk fun K7 hK7 => ?_
 refine T_block ?_
 refine T_sr fun K8 hK8 => ?_
 simp [aIndexAddr, aload, frame0, g3, g8, g9, g10, g4, part_byte, sl_get (map_get (f := brow) hlt)]
 apply hK8
 refine T_rg ?_
 simp [frame0, g3, g8, g9, g10, g4, bin_shr32_8, conv_b8, bin_xor8, idx_tab, load_tab b3, bin_xor32v]
 apply hK7
 refine T_rg ?_
 simp [aBin, aBinV, frame0, g3, g8, g9, g10, g4]
 refine ⟨bs.length - (i + 1), by omega, i + 1, rfl, by omega, by rw [wrap_i64 (by omega) (by omega)]; rfl, ?_, b3, hext⟩
 rw [crcFold_take hlt]; rfl
 have hge : bs.length ≤ i := by simp at c0; omega
 refine T_exit ?_
 try simp only [ke, kn, if_true, if_false, Nat.reduceEqDiff, reduceIte]
 apply hK3
 refine T_sr fun K9 hK9 => ?_
 simp [frame0, g3, g8, g9, g10, g4, not32]
 apply hK9
 refine T_ret ?_
 try simp only [kr]
 rw [List.take_of_length_le hge]
 refine owes_one (.inr rfl) hwf rfl (by simp; rfl) hext (by simp) (by simp)
theorem sumMsl (H : AS) (bs : List UInt8) (hb : bs.length < 2 ^ 62) (j : Nat) (hj : H.box j = some (bs.map brow)) : ACalls Tryz.prog 18 [.msl j bs.length 1] H fun q H' => q = v32 (crc bs) ∧ H' = H := by
 refine ACalls_intro Tryz.func18 rfl (by kernel_rfl) (by simp) fun hwf hbel => ?_
 have hbj : ∀ {H1 : AS}, H.Ext H1 → H1.box j = some (bs.map brow) := fun he => by rw [he.box j (hwf.box _ _ hj).1]; exact hj
 refine T_sr fun K0 hK0 => ?_
 simp [frame0]
 apply hK0
 refine T_sr fun K1 hK1 => ?_
 simp [aalloc, astore, frame0, splice_tab]
 refine callK.of (tableIs _) ?_
 rintro _ Hz ⟨rfl, hz⟩
 subst Hz
 simp [aalloc, astore, frame0, splice_tab]
 apply hK1
 refine T_sr fun K2 hK2 => ?_
 simp [frame0]
 apply hK2
 refine T_seqk fun K3 hK3 => ?_
 refine T_sr fun K4 hK4 => ?_
 simp [aLen, frame0]
 apply hK4
 refine T_block ?_
 refine T_loop (fun k F H' => ∃ i : Nat, k = bs.length - i ∧ i ≤ bs.length ∧ F 3 = .ptr H.next 1 0 0 ∧ F 8 = .msl j bs.length 1 ∧ F 9 = pi bs.length ∧ F 10 = pi i ∧ F 4 = v32 (crcFold (bs.take i)) ∧ H'.box H.next = some [tabRow] ∧ H.Ext H') (bs.length) ?_ ?_
 refine ⟨0, ?_⟩
 simp [frame0]
 exact ⟨rfl, .setBox (Nat.le_refl _) (.bump (.setBox (Nat.le_refl _) (.refl _)))⟩
 rintro k F H1 ⟨i, rfl, hile, g3, g8, g9, g10, g4, b3, hext⟩
 refine T_sr fun K5 hK5 => ?_
 simp [aBin, aBinV, frame0, g3, g8, g9, g10, g4]
 apply hK5
 refine T_seqk fun K6 hK6 => ?_
 refine T_cond (rfl) (fun c0 => ?_) (fun c0 => ?_)
 have hlt : i < bs.length := by simp at c0; omega
 refine T_skip ?_
 simp only [kn]
 apply hK6
 refine T_seqk fun K7 hK7 => ?_
 refine T_block ?_
 refine T_sr fun K8 hK8 => ?_
 simp [aIndexAddr, aload, frame0, g3, g8, g9, g10, g4, part_byte, amsl hlt, hbj hext, List.getElem?_eq_getElem hlt]
 apply hK8
 refine T_rg ?_
 simp [frame0, g3, g8, g9, g10, g4, bin_shr32_8, conv_b8, bin_xor8, idx_tab, load_tab b3, bin_xor32v]
 apply hK7
 refine T_rg ?_
 simp [aBin, aBinV, frame0, g3, g8, g9, g10, g4]
 refine ⟨bs.length - (i + 1), by omega, i + 1, rfl, by omega, by rw [wrap_i64 (by omega) (by omega)]; rfl, ?_, b3, hext⟩
 rw [crcFold_take hlt]; rfl
 have hge : bs.length ≤ i := by simp at c0; omega
 refine T_exit ?_
 try simp only [ke, kn, if_true, if_false, Nat.reduceEqDiff, reduceIte]
 apply hK3
 refine T_sr fun K9 hK9 => ?_
 simp [frame0, g3, g8, g9, g10, g4, not32]
 apply hK9
 refine T_ret ?_
 try simp only [kr]
 rw [List.take_of_length_le hge]
 refine owes_one (.inr rfl) hwf rfl (by simp; rfl) hext (by simp) (by simp)
theorem littleIs (H : AS) (c : BitVec 32) : ACalls Tryz.prog 51 [v32 c] H fun q H' => q = .agg [b8 (lowByte c), b8 (lowByte (c >>> 8)), b8 (lowByte (c >>> 16)), b8 (lowByte (c >>> 24))] ∧ H' = H := by
 refine ACalls_intro Tryz.func51 rfl (by kernel_rfl) (by simp) fun hwf hbel => ?_
 refine T_sr fun K0 hK0 => ?_
 simp [aalloc, frame0]
 apply hK0
 refine T_sr fun K1 hK1 => ?_
 simp [splice, astore, frame0, bin_shr32_8, bin_shr32_16, bin_shr32_24, conv_b8, build4]
 apply hK1
 refine T_ret ?_
 try simp only [kr]
 refine owes_one (.inr rfl) hwf (by rw [show Tryz.f51.results.toList = [.cell 2 100] from rfl]; simp [aResults, aload, partOf]) rfl (.setBox (Nat.le_refl _) (.bump (.setBox (Nat.le_refl _) (.refl _)))) (by simp) (by simp)
structure RS where
 at' : Nat
 e : Int
 of : Int
def rrow (bs : List UInt8) (c : Nat) (s : RS) : List PV := [PV.sl c 1 (bs.map brow), pi s.at', pi s.e, pi s.of]
structure RdOk (H : AS) (id : Nat) (bs : List UInt8) (c : Nat) (s : RS) : Prop where
 box : H.box id = some [rrow bs c s]
 le : s.at' ≤ bs.length
 small : bs.length < 2 ^ 40
def rdRefuse (a e : Int) (s : RS) : RS := if s.e = 0 then { s with e := e, of := a } else s
def m8 (n : Nat) : Nat := min n 8
def rdTake (bs : List UInt8) (n : Nat) (s : RS) : List UInt8 × RS :=
 if s.e = 0 then if bs.length < s.at' + n then (List.replicate (m8 n) 0, { s with e := 2, of := bs.length }) else ((bs.drop s.at').take n, { s with at' := s.at' + n }) else (List.replicate (m8 n) 0, s)
def rdByte (bs : List UInt8) (s : RS) : Int × RS := ((((rdTake bs 1 s).1.head?.getD 0).toNat : Int), (rdTake bs 1 s).2)
theorem owes_one_at {P : Program} {H H1 : AS} {fn : Func} {r q : PV} {F' : AF} {H' : AS} {e : Exit} (he : e = .normal ∨ e = .ret) (hwf : WF H1) (hn : H.next ≤ H1.next) (hr : aResults P F' H' fn.results.toList = some [r]) (hq : r = q)
  (hext : H1.Ext H') (hf : (∀ cs, r = .agg cs → ∀ x ∈ cs, Frozen x) ∧ Frozen r) (hb : Below H1.next r) : Owes P fn H (fun r H'' => r = q ∧ H'' = H1) e F' H' := by
 subst hq
 refine ⟨he, ?_⟩
 rw [hr]
 refine ⟨H1, hn, ?_, hwf, ?_, ?_, rfl⟩ <;> simp [frzVs, frzV_one hf, packed]
 exact hext
 exact hb
theorem owes_none_at {P : Program} {H H1 : AS} {fn : Func} {F' : AF} {H' : AS} {e : Exit} (he : e = .normal ∨ e = .ret) (hwf : WF H1) (hn : H.next ≤ H1.next) (hr : aResults P F' H' fn.results.toList = some [])
  (hext : H1.Ext H') : Owes P fn H (fun r H'' => r = .tuple [] ∧ H'' = H1) e F' H' := by
 refine ⟨he, ?_⟩
 rw [hr]
 exact ⟨H1, hn, by simpa [frzVs] using hext, hwf, by simp [frzVs], rfl, rfl⟩
theorem owes_out_at {P : Program} {H H1 : AS} {fn : Func} {p : PV} {F' : AF} {H' : AS} {e : Exit} {lo sz : Nat} {rows : List (List PV)} (he : e = .normal ∨ e = .ret) (hwf : WF H1) (hn : H.next ≤ H1.next) (hr : aResults P F' H' fn.results.toList = some [p])
  (hout : OutIs lo H' p sz rows) (hlo : H1.next ≤ lo) (hext : H1.Ext H') (hb : ∀ r ∈ rows, ∀ p ∈ r, Below H1.next p) : Owes P fn H (fun r H'' => r = PV.sl H1.color sz rows ∧ H'' = H1) e F' H' := by
 obtain ⟨H2, hf, hab⟩ := frz_out hout
 have hv : frzV H' p = (PV.sl H'.color sz rows, H2) := by
  rcases hout with ⟨rfl, rfl⟩ | ⟨id, hid, hlt, rfl, hbox⟩ <;> exact hf
 refine ⟨he, ?_⟩
 rw [hr]
 refine ⟨H1, hn, ?_, hwf, ?_, ?_, rfl⟩ <;> simp [frzVs, hv, packed]
 exact hab H1 hlo hext
 exact hb
 rw [hext.color]
theorem WF.set {H : AS} {id : Nat} {row row' : List PV} (hwf : WF H) (hb : H.box id = some [row]) (h : ∀ p ∈ row', Below H.next p) : WF (H.setBox id [row']) := by
 refine ⟨fun j rows hj => ?_, hwf.mp⟩
 rw [box_setBox] at hj
 split at hj
 rename_i e; subst e; cases hj
 exact ⟨(hwf.box _ _ hb).1, fun r hr p hp => by rw [List.mem_singleton] at hr; subst hr; exact h p hp⟩
 exact hwf.box j rows hj
theorem below_rrow (n : Nat) (bs : List UInt8) (c : Nat) (s : RS) : ∀ p ∈ rrow bs c s, Below n p := by
 simp [rrow, brow, Below]
theorem RdOk.wf {H : AS} {id : Nat} {bs : List UInt8} {c : Nat} {s : RS} (h : RdOk H id bs c s) (hwf : WF H) (s' : RS) : WF (H.setBox id [rrow bs c s']) := hwf.set h.box (below_rrow _ _ _ _)
theorem RdOk.lt {H : AS} {id : Nat} {bs : List UInt8} {c : Nat} {s : RS} (h : RdOk H id bs c s) (hwf : WF H) : id < H.next := (hwf.box _ _ h.box).1
theorem RdOk.same {H : AS} {id : Nat} {bs : List UInt8} {c : Nat} {s : RS} (h : RdOk H id bs c s) : H.setBox id [rrow bs c s] = H := by
 cases H; simp only [AS.setBox, AS.mk.injEq, and_true]
 funext i
 split
 rename_i e; subst e; exact h.box.symm
 rfl
theorem setBox_setBox {H : AS} {id : Nat} {r s : List (List PV)} : (H.setBox id r).setBox id s = H.setBox id s := by
 cases H; simp only [AS.setBox, AS.mk.injEq, and_true]
 funext i; split <;> rfl
theorem frozen_sl_bytes (c : Nat) (bs : List UInt8) : (∀ cs, PV.sl c 1 (bs.map brow) = .agg cs → ∀ x ∈ cs, Frozen x) ∧ Frozen (PV.sl c 1 (bs.map brow)) := ⟨fun cs h => by cases bs <;> simp [PV.sl] at h, frozen_sl _ _ _⟩
theorem wsub {a b : Nat} (h : a ≤ b) (hb : b < 2 ^ 40) : IntKind.i64.wrap ((b : Int) - a) = ((b - a : Nat) : Int) := by rw [wrap_i64 (by omega) (by omega)]; omega
theorem min8 (n : Nat) : amin (pi n) (pi 8) = some (pi (m8 n : Nat)) := by
 simp only [amin_int, m8]
 congr 3
 split <;> omega
theorem make_bytes (H : AS) (n : Nat) : amakeS Tryz.prog H 28 (pi (m8 n : Nat)) (pi (m8 n : Nat)) = some (.msl H.next (m8 n) 1, (H.setBox H.next ((List.replicate (m8 n) (0 : UInt8)).map brow)).bump 1) := by
 have ht : Tryz.prog.underlying 28 = some (.slice 5) := by kernel_rfl
 have h : m8 n ≤ 8 := by unfold m8; omega
 simp only [amakeS, ht, Tryz.sz5, Tryz.zero5, Tryz.by5]
 rw [if_pos ⟨trivial, by omega, by omega, by omega, rfl, rfl⟩]
 simp [brow]
theorem below_bytes (n c : Nat) (bs : List UInt8) : Below n (PV.sl c 1 (bs.map brow)) := by
 rw [below_sl]; intro r hr p hp
 obtain ⟨b, _, rfl⟩ := List.mem_map.1 hr
 simp [brow] at hp; subst hp; exact .val _
theorem wnat {a : Nat} (h : a < 2 ^ 40) : IntKind.i64.wrap (a : Int) = a := wrap_i64 (by omega) (by omega)
theorem cut_bytes {c : Nat} {bs : List UInt8} {a n : Nat} (h : a + n ≤ bs.length) : aCutOp Tryz.prog 28 (PV.sl c 1 (bs.map brow)) (some (pi a)) (some (pi ((a : Int) + n))) = some (PV.sl c 1 (((bs.drop a).take n).map brow)) := by
 have ht : Tryz.prog.underlying 28 = some (.slice 5) := by kernel_rfl
 cases bs with
 | nil => simp [aCutOp, cutOk, ht, aBound, acut, PV.sl] at h ⊢; omega
 | cons b bs =>
  simp only [aCutOp, cutOk, ht, aBound, acut, PV.sl, List.map_cons, Tryz.sz5, Option.bind_some, Option.getD_some]
  simp only [List.length_cons, List.length_map] at h ⊢
  rw [if_pos (by simp), if_pos (by omega)]
  congr 1
  rw [← List.map_cons, ← List.map_take, ← List.map_drop, show ((a : Int) + n).toNat = a + n by omega, show (a : Int).toNat = a by omega, List.drop_take]
  simp [PV.sl, show a + n - a = n by omega]
theorem wadd {a b : Nat} (h : a + b < 2 ^ 40) : IntKind.i64.wrap ((a : Int) + b) = ((a + b : Nat) : Int) := by rw [wrap_i64 (by omega) (by omega)]; omega
theorem refuseOk (H : AS) (id : Nat) (bs : List UInt8) (c : Nat) (s : RS) (hr : RdOk H id bs c s) (a e : Int) (he : s.e = 0) : ACalls Tryz.prog 28 [.ptr id 1 0 0, pi a, pi e] H fun q H' => q = .tuple [] ∧ H' = H.setBox id [rrow bs c { s with e := e, of := a }] := by
 refine ACalls_intro Tryz.func28 rfl (by kernel_rfl) (by simp) fun hwf hbel => ?_
 refine T_sr fun K0 hK0 => ?_
 simp [aFieldAddr, aload, partOf, aBin, aBinV, frame0, hr.box, rrow, he]
 apply hK0
 refine T_cond (rfl) (fun c0 => ?_) (fun c0 => ?_)
 refine T_rg ?_
 simp [aFieldAddr, astore, splice, frame0, hr.box, rrow]
 refine owes_none_at (.inl rfl) (hr.wf hwf { s with e := e, of := a }) (by simp) rfl ?_
 rw [setBox_setBox]; exact .refl _
 cases c0 --done
theorem refuseBad (H : AS) (id : Nat) (bs : List UInt8) (c : Nat) (s : RS) (hr : RdOk H id bs c s) (a e : Int) (he : s.e ≠ 0) : ACalls Tryz.prog 28 [.ptr id 1 0 0, pi a, pi e] H fun q H' => q = .tuple [] ∧ H' = H := by
 refine ACalls_intro Tryz.func28 rfl (by kernel_rfl) (by simp) fun hwf hbel => ?_
 refine T_sr fun K0 hK0 => ?_
 simp [aFieldAddr, aload, partOf, aBin, aBinV, frame0, hr.box, rrow, int_beq, he]
 apply hK0
 refine T_cond (rfl) (fun c0 => ?_) (fun c0 => ?_)
 cases c0 --done
 refine T_skip ?_
 try simp only [kn]
 exact owes_none_at (.inl rfl) hwf (Nat.le_refl _) rfl (.refl _)
theorem takeOk (H : AS) (id : Nat) (bs : List UInt8) (c : Nat) (s : RS) (hr : RdOk H id bs c s) (n : Nat) (he : s.e = 0) (hn : s.at' + n ≤ bs.length) : ACalls Tryz.prog 52 [.ptr id 1 0 0, pi n] H fun q H' => q = PV.sl c 1 (((bs.drop s.at').take n).map brow) ∧ H' = H.setBox id [rrow bs c { s with at' := s.at' + n }] := by
 refine ACalls_intro Tryz.func52 rfl (by kernel_rfl) (by simp) fun hwf hbel => ?_
 have hsm := hr.small
 have hle := hr.le
 refine T_sr fun K0 hK0 => ?_
 simp [frame0]
 apply hK0
 refine T_seqk fun K1 hK1 => ?_
 refine T_seqk fun K2 hK2 => ?_
 refine T_draw (fun i => i = id) [] (.free 0 (.free 1 (.free 2 (.free 3 (.free 4 (.free 5 (.free 6 (.free 7 (.free 8 (.free 9 (.free 10 (.free 11 (.free 12 (.free 13 (.free 14 (.free 15 (.free 16 (.free 17 (.free 18 .done))))))))))))))))))) mix ?_ ?_ ?_
 kernel_rfl
 kernel_rfl
 simp [Keeps, Same, ↓wanted_some, aFieldAddr, aload, partOf, aBin, aBinV, aLen, frame0, hr.box, rrow, he, wsub (show s.at' ≤ bs.length from hle) hsm]
 apply hK2
 refine T_cond (rfl) (fun c0 => ?_) (fun c0 => ?_)
 exfalso
 simp at c0
 omega --done
 refine T_skip ?_
 try simp only [kn]
 apply hK1
 refine T_seqk fun K3 hK3 => ?_
 refine T_sr fun K4 hK4 => ?_
 simp [aFieldAddr, aload, partOf, aBin, aBinV, frame0, hr.box, rrow, he]
 apply hK4
 refine T_cond (rfl) (fun c1 => ?_) (fun c1 => ?_)
 cases c1 --done
 refine T_skip ?_
 try simp only [kn]
 apply hK3
 refine T_sr fun K5 hK5 => ?_
 simp [aFieldAddr, aload, partOf, aBin, aBinV, astore, splice, frame0, hr.box, rrow, wadd (show s.at' + n < 2 ^ 40 by omega)]
 apply hK5
 refine T_seqk fun K6 hK6 => ?_
 refine T_draw (fun i => i = id) [] (.free 0 (.free 1 (.free 2 (.free 3 (.free 4 (.free 5 (.free 6 (.free 7 (.free 8 (.free 9 (.free 10 (.free 11 (.free 12 (.free 13 (.free 14 (.free 15 .done)))))))))))))))) mix ?_ ?_ ?_
 kernel_rfl
 kernel_rfl
 simp [Keeps, Same, aFieldAddr, aload, partOf, aBin, aBinV, frame0, hr.box, rrow, wnat (show s.at' < 2 ^ 40 by omega), cut_bytes hn]
 apply hK6
 refine T_ret ?_
 try simp only [kr]
 refine owes_one_at (.inr rfl) (hr.wf hwf { s with at' := s.at' + n }) (r := PV.sl c 1 (((bs.map brow).drop s.at').take n)) (by simp) rfl (by rw [List.map_take, List.map_drop]) ?_ (by rw [← List.map_drop, ← List.map_take]; exact frozen_sl_bytes _ _) (by rw [← List.map_drop, ← List.map_take]; exact below_bytes _ _ _)
 exact .refl _
theorem takeShort (H : AS) (id : Nat) (bs : List UInt8) (c : Nat) (s : RS) (hr : RdOk H id bs c s) (n : Nat) (he : s.e = 0) (hn : ¬ s.at' + n ≤ bs.length) (hn40 : n < 2 ^ 63) : ACalls Tryz.prog 52 [.ptr id 1 0 0, pi n] H fun q H' => q = PV.sl H.color 1 ((List.replicate (m8 n) (0 : UInt8)).map brow) ∧ H' = H.setBox id [rrow bs c { s with e := 2, of := bs.length }] := by
 refine ACalls_intro Tryz.func52 rfl (by kernel_rfl) (by simp) fun hwf hbel => ?_
 have hsm := hr.small
 have hle := hr.le
 refine T_sr fun K0 hK0 => ?_
 simp [frame0]
 apply hK0
 refine T_seqk fun K1 hK1 => ?_
 refine T_seqk fun K2 hK2 => ?_
 refine T_draw (fun i => i = id) [] (.free 0 (.free 1 (.free 2 (.free 3 (.free 4 (.free 5 (.free 6 (.free 7 (.free 8 (.free 9 (.free 10 (.free 11 (.free 12 (.free 13 (.free 14 (.free 15 (.free 16 (.free 17 (.free 18 .done))))))))))))))))))) mix ?_ ?_ ?_
 kernel_rfl
 kernel_rfl
 simp [Keeps, Same, ↓wanted_some, aFieldAddr, aload, partOf, aBin, aBinV, aLen, frame0, hr.box, rrow, he, wsub (show s.at' ≤ bs.length from hle) hsm]
 apply hK2
 refine T_cond (rfl) (fun c0 => ?_) (fun c0 => ?_)
 refine T_rg ?_
 simp [aFieldAddr, aload, partOf, aLen, frame0, hr.box, rrow]
 refine callK.of (refuseOk _ id bs c s hr _ _ he) ?_
 rintro _ Hz ⟨rfl, hz⟩
 subst Hz
 simp [aFieldAddr, aload, partOf, aLen, frame0, hr.box, rrow]
 apply hK1
 refine T_seqk fun K3 hK3 => ?_
 refine T_sr fun K4 hK4 => ?_
 simp [aFieldAddr, aload, partOf, aBin, aBinV, frame0, hr.box, rrow]
 apply hK4
 refine T_cond (rfl) (fun c1 => ?_) (fun c1 => ?_)
 refine T_sr fun K5 hK5 => ?_
 simp [frame0, min8, make_bytes, -amin_int]
 apply hK5
 refine T_ret ?_
 try simp only [kr]
 have hlt := hr.lt hwf
 refine owes_out_at (lo := H.next) (H1 := H.setBox id [rrow bs c { s with e := 2, of := bs.length }]) (.inr rfl) (hr.wf hwf _) (by simp) rfl (.mk (by simp) (by simp) (by simp) (by simp)) (by simp) ?_ ?_
 exact .bump (.setBox (by simp) (.refl _))
 intro r hr p hp
 obtain ⟨b, _, rfl⟩ := List.mem_map.1 hr
 simp [brow] at hp; subst hp; exact .val _
 cases c1 --done
 exfalso
 simp at c0
 omega --done
theorem takeBad (H : AS) (id : Nat) (bs : List UInt8) (c : Nat) (s : RS) (hr : RdOk H id bs c s) (n : Nat) (he : s.e ≠ 0) : ACalls Tryz.prog 52 [.ptr id 1 0 0, pi n] H fun q H' => q = PV.sl H.color 1 ((List.replicate (m8 n) (0 : UInt8)).map brow) ∧ H' = H := by
 refine ACalls_intro Tryz.func52 rfl (by kernel_rfl) (by simp) fun hwf hbel => ?_
 refine T_sr fun K0 hK0 => ?_
 simp [frame0]
 apply hK0
 refine T_seqk fun K1 hK1 => ?_
 refine T_seqk fun K2 hK2 => ?_
 refine T_draw (fun i => i = id) [] (.free 0 (.free 1 (.free 2 (.free 3 (.free 4 (.free 5 (.free 6 (.free 7 (.free 8 (.free 9 (.free 10 (.free 11 (.free 12 (.free 13 (.free 14 (.free 15 (.free 16 (.free 17 (.free 18 .done))))))))))))))))))) mix ?_ ?_ ?_
 kernel_rfl
 kernel_rfl
 simp [Keeps, Same, ↓wanted_some, aFieldAddr, aload, partOf, aBin, aBinV, aLen, frame0, hr.box, rrow, int_beq, he]
 apply hK2
 refine T_cond (rfl) (fun c0 => ?_) (fun c0 => ?_)
 cases c0 --done
 refine T_skip ?_
 try simp only [kn]
 apply hK1
 refine T_seqk fun K3 hK3 => ?_
 refine T_sr fun K4 hK4 => ?_
 simp [aFieldAddr, aload, partOf, aBin, aBinV, frame0, hr.box, rrow, int_bne, he]
 apply hK4
 refine T_cond (rfl) (fun c1 => ?_) (fun c1 => ?_)
 refine T_sr fun K5 hK5 => ?_
 simp [frame0, min8, make_bytes, -amin_int]
 apply hK5
 refine T_ret ?_
 try simp only [kr]
 refine owes_out_at (lo := H.next) (H1 := H) (.inr rfl) hwf (Nat.le_refl _) rfl (.mk (by simp) (by simp) (by simp) (by simp)) (Nat.le_refl _) ?_ ?_
 exact .bump (.setBox (by simp) (.refl _))
 intro r hr p hp
 obtain ⟨b, _, rfl⟩ := List.mem_map.1 hr
 simp [brow] at hp; subst hp; exact .val _
 cases c1 --done
theorem rdTake_le {bs : List UInt8} {n : Nat} {s : RS} (h : s.at' ≤ bs.length) : (rdTake bs n s).2.at' ≤ bs.length := by
 unfold rdTake; split
 split <;> simp <;> omega
 exact h
theorem rdTake_length {bs : List UInt8} {n : Nat} {s : RS} (hn : n ≤ 8) : (rdTake bs n s).1.length = n := by
 unfold rdTake m8; split
 split
 simp; omega
 simp; omega
 simp; omega
theorem takeIs (H : AS) (id : Nat) (bs : List UInt8) (c : Nat) (s : RS) (hr : RdOk H id bs c s) (n : Nat) (hn : n < 2 ^ 63) : ACalls Tryz.prog 52 [.ptr id 1 0 0, pi n] H fun q H' => (∃ d, q = PV.sl d 1 ((rdTake bs n s).1.map brow)) ∧ H' = H.setBox id [rrow bs c (rdTake bs n s).2] := by
 unfold rdTake
 by_cases he : s.e = 0
 by_cases h : s.at' + n ≤ bs.length
 have h' : ¬ bs.length < s.at' + n := by omega
 simp only [he, h', if_true, if_false]
 exact (takeOk H id bs c s hr n he h).mono fun q H' hq => ⟨⟨_, hq.1⟩, by rw [hq.2, he]⟩
 have h' : bs.length < s.at' + n := by omega
 simp only [he, h', if_true]
 exact (takeShort H id bs c s hr n he h hn).mono fun q H' hq => ⟨⟨_, hq.1⟩, hq.2⟩
 simp only [he, if_false]
 exact (takeBad H id bs c s hr n he).mono fun q H' hq => ⟨⟨_, hq.1⟩, by rw [hq.2, hr.same]⟩
theorem RdOk.set {H : AS} {id : Nat} {bs : List UInt8} {c : Nat} {s s' : RS} (h : RdOk H id bs c s) (hle : s'.at' ≤ bs.length) : RdOk (H.setBox id [rrow bs c s']) id bs c s' := ⟨by simp, hle, h.small⟩
theorem w_u8 (b : UInt8) : IntKind.i64.wrap (b.toNat : Int) = b.toNat := wrap_i64 (by have := b.toNat_lt; omega) (by have := b.toNat_lt; omega)
theorem conv_b8_int (b : UInt8) : aConvert Tryz.prog 5 3 (b8 b) = some (pi b.toNat) := by
 simp [aConvert, b8]; exact w_u8 b
theorem headD_get {l : List UInt8} (h : l.length = 1) : l[0]? = some (l.head?.getD 0) := by
 obtain ⟨x, rfl⟩ := List.length_eq_one_iff.1 h; rfl
def v64 (c : BitVec 64) : PV := .val (.int .u64 (c.toNat : Int))
@[simp] theorem cells_v64 (c : BitVec 64) : (v64 c).cells = [v64 c] := rfl
@[simp] theorem okCells_v64 (c : BitVec 64) : (v64 c).okCells = true := rfl
@[simp] theorem atomic_v64 (c : BitVec 64) : (v64 c).atomic = true := rfl
theorem u64_wrap_nat (n : Nat) : IntKind.u64.wrap (n : Int) = ((n % 2 ^ 64 : Nat) : Int) := by
 unfold IntKind.wrap; simp [IntKind.bits, IntKind.signed]
theorem conv_b8_64 (b : UInt8) : aConvert Tryz.prog 5 40 (b8 b) = some (v64 (BitVec.ofNat 64 b.toNat)) := by
 simp [aConvert, b8, v64]
 rw [u64_wrap_nat]
 have := b.toNat_lt; omega
theorem bin_shl64 (P : Program) (t : TypeId) (c : BitVec 64) (k : IntKind) (n : Nat) (hn : n < 64) : aBin P .shl t (v64 c) (.val (.int k (n : Int))) = some (v64 (c <<< n)) := by
 show (if 0 ≤ (n : Int) then some (Value.int .u64 (IntKind.u64.wrap ((c.toNat : Int) * 2 ^ min (n : Int).toNat 64))) else none).map PV.val = _
 rw [if_pos (by omega), show min (n : Int).toNat 64 = n by omega]
 rw [show (c.toNat : Int) * 2 ^ n = ((c.toNat * 2 ^ n : Nat) : Int) by rw [Int.natCast_mul, Int.natCast_pow]; rfl, u64_wrap_nat]
 simp [v64, BitVec.toNat_shiftLeft, Nat.shiftLeft_eq]
theorem u64_wrap_toNat (c : BitVec 64) : IntKind.u64.wrap (c.toNat : Int) = c.toNat := by
 rw [u64_wrap_nat, Nat.mod_eq_of_lt c.isLt]
theorem ofInt64_toNat (c : BitVec 64) : BitVec.ofInt 64 (c.toNat : Int) = c := by
 apply BitVec.eq_of_toInt_eq; simp [BitVec.toInt_ofInt, BitVec.toInt_eq_toNat_bmod]
theorem bin_or64 (P : Program) (t : TypeId) (c d : BitVec 64) : aBin P .or t (v64 c) (v64 d) = some (v64 (c ||| d)) := by
 show (if IntKind.u64 = IntKind.u64 then some (Value.int .u64 (IntKind.u64.wrap ((BitVec.ofInt 64 (c.toNat : Int) ||| BitVec.ofInt 64 (d.toNat : Int)).toNat : Int))) else none).map PV.val = _
 rw [if_pos rfl, ofInt64_toNat, ofInt64_toNat, u64_wrap_toNat]; rfl
theorem conv_v64 (c : BitVec 64) : aConvert Tryz.prog 40 3 (v64 c) = some (pi c.toInt) := by
 have h := c.isLt
 have e : IntKind.i64.wrap (c.toNat : Int) = c.toInt := by
  rw [BitVec.toInt_eq_toNat_cond]
  unfold IntKind.wrap
  simp only [IntKind.bits, IntKind.signed, Bool.true_and]
  split <;> rename_i h1 <;> split <;> rename_i h2 <;> simp at h1 <;> omega
 simp [aConvert, v64]; exact e
def numTo (l : List UInt8) : Nat → BitVec 64
 | 0 => 0
 | i + 1 => numTo l i ||| (BitVec.ofNat 64 ((l[i]?).getD 0).toNat <<< (8 * i))
theorem numTo_succ {l : List UInt8} {i : Nat} (h : i < l.length) : numTo l (i + 1) = numTo l i ||| (BitVec.ofNat 64 l[i].toNat <<< (8 * i)) := by
 rw [numTo, List.getElem?_eq_getElem h]; rfl
def rdNum (bs : List UInt8) (s : RS) : Int × RS := ((numTo (rdTake bs 8 s).1 8).toInt, (rdTake bs 8 s).2)
theorem sl_get0 {d : Nat} {l : List UInt8} {b : UInt8} (h : l[0]? = some b) : aindex 1 (PV.sl d 1 (l.map brow)) 0 = some (.rptr d (brow b)) := sl_get (i := 0) (by simp [h])
theorem bin_shl8 {P : Program} {t : TypeId} {c : BitVec 64} {k : IntKind} {i : Nat} (h : i < 8) : aBin P .shl t (v64 c) (.val (.int k (8 * (i : Int)))) = some (v64 (c <<< (8 * i))) := bin_shl64 P t c k (8 * i) (by omega)
theorem bin_mul8 {i : Nat} (h : i < 8) : aBin Tryz.prog .mul 3 (pi 8) (pi i) = some (pi ((8 * i : Nat) : Int)) := by
 simp only [aBin, aBinV, if_true, Option.map_some]
 rw [w8 h]; rfl
theorem byteIs (H : AS) (id : Nat) (bs : List UInt8) (c : Nat) (s : RS) (hr : RdOk H id bs c s) : ACalls Tryz.prog 54 [.ptr id 1 0 0] H fun q H' => q = pi (rdByte bs s).1 ∧ H' = H.setBox id [rrow bs c (rdByte bs s).2] := by
 refine ACalls_intro Tryz.func54 rfl (by kernel_rfl) (by simp) fun hwf hbel => ?_
 have hl1 := rdTake_length (bs := bs) (s := s) (show 1 ≤ 8 by decide)
 have hg := headD_get hl1
 refine T_sr fun K0 hK0 => ?_
 simp [frame0]
 apply hK0
 refine T_sr fun K1 hK1 => ?_
 simp [aIndexAddr, aload, frame0, conv_b8_int, sl_get0 hg, part_byte]
 refine callK.of (takeIs _ id bs c s hr 1 (by decide)) ?_
 rintro _ H2 ⟨⟨d, rfl⟩, rfl⟩
 simp [aIndexAddr, aload, frame0, conv_b8_int, sl_get0 hg, part_byte]
 apply hK1
 refine T_ret ?_
 try simp only [kr]
 exact owes_one_at (.inr rfl) (hr.wf hwf _) (by simp) rfl rfl (.refl _) (by simp) (by simp)
theorem numIs (H : AS) (id : Nat) (bs : List UInt8) (c : Nat) (s : RS) (hr : RdOk H id bs c s) : ACalls Tryz.prog 56 [.ptr id 1 0 0] H fun q H' => q = pi (rdNum bs s).1 ∧ H' = H.setBox id [rrow bs c (rdNum bs s).2] := by
 refine ACalls_intro Tryz.func56 rfl (by kernel_rfl) (by simp) fun hwf hbel => ?_
 have hl8 := rdTake_length (bs := bs) (s := s) (show 8 ≤ 8 by decide)
 unfold rdNum
 generalize hl : (rdTake bs 8 s).1 = l at hl8 ⊢
 refine T_sr fun K0 hK0 => ?_
 simp [frame0]
 apply hK0
 refine T_sr fun K1 hK1 => ?_
 simp [frame0]
 apply hK1
 refine T_seqk fun K2 hK2 => ?_
 refine T_sr fun K3 hK3 => ?_
 simp [aLen, frame0, hl8]
 refine callK.of (takeIs _ id bs c s hr 8 (by decide)) ?_
 rintro _ H2 ⟨⟨d, rfl⟩, rfl⟩
 rw [hl]
 simp [aLen, frame0, hl8]
 apply hK3
 refine T_block ?_
 refine T_loop (fun k F H' => ∃ i : Nat, k = 8 - i ∧ i ≤ 8 ∧ F 7 = PV.sl d 1 (l.map brow) ∧ F 8 = pi 8 ∧ F 9 = pi i ∧ F 3 = v64 (numTo l i) ∧ H' = H.setBox id [rrow bs c (rdTake bs 8 s).2]) (8) ?_ ?_
 refine ⟨0, ?_⟩
 simp [hl8, numTo]
 rfl
 rintro k F H1 ⟨i, rfl, hile, g7, g8, g9, g3, hH⟩
 refine T_sr fun K4 hK4 => ?_
 simp [aBin, aBinV, frame0, g7, g8, g9, g3]
 apply hK4
 refine T_seqk fun K5 hK5 => ?_
 refine T_cond (rfl) (fun c0 => ?_) (fun c0 => ?_)
 have hi8 : i < 8 := by simp at c0; omega
 refine T_skip ?_
 try simp only [kn]
 apply hK5
 refine T_seqk fun K6 hK6 => ?_
 refine T_block ?_
 refine T_sr fun K7 hK7 => ?_
 simp [aIndexAddr, aload, frame0, g7, g8, g9, g3, sl_get (map_get (f := brow) (show i < l.length by omega)), part_byte]
 apply hK7
 refine T_rg ?_
 simp [frame0, g7, g8, g9, g3, conv_b8_64, bin_mul8 hi8, bin_shl8 hi8, bin_or64]
 apply hK6
 refine T_rg ?_
 simp [aBin, aBinV, frame0, g7, g8, g9, g3]
 refine ⟨8 - (i + 1), by omega, i + 1, rfl, by omega, by rw [wrap_i64 (by omega) (by omega)]; rfl, ?_, hH⟩
 rw [numTo_succ (show i < l.length by omega)]
 have hi8 : i = 8 := by simp at c0; omega
 subst hi8
 refine T_exit ?_
 try simp only [ke, kn, if_true, if_false, Nat.reduceEqDiff, reduceIte]
 apply hK2
 refine T_sr fun K8 hK8 => ?_
 simp [frame0, g7, g8, g9, g3, conv_v64]
 apply hK8
 refine T_ret ?_
 try simp only [kr]
 subst hH
 exact owes_one_at (.inr rfl) (hr.wf hwf _) (by simp) rfl rfl (.refl _) (by simp) (by simp)
theorem refuseIs (H : AS) (id : Nat) (bs : List UInt8) (c : Nat) (s : RS) (hr : RdOk H id bs c s) (a e : Int) : ACalls Tryz.prog 28 [.ptr id 1 0 0, pi a, pi e] H fun q H' => q = .tuple [] ∧ H' = H.setBox id [rrow bs c (rdRefuse a e s)] := by
 unfold rdRefuse
 by_cases he : s.e = 0
 simp only [he, if_true]; exact refuseOk H id bs c s hr a e he
 simp only [he, if_false]; exact (refuseBad H id bs c s hr a e he).mono fun q H' hq => ⟨hq.1, by rw [hq.2, hr.same]⟩
theorem rdRefuse_at (a e : Int) (s : RS) : (rdRefuse a e s).at' = s.at' := by unfold rdRefuse; split <;> rfl
theorem rdByte_le {bs : List UInt8} {s : RS} (h : s.at' ≤ bs.length) : (rdByte bs s).2.at' ≤ bs.length := rdTake_le h
theorem rdNum_le {bs : List UInt8} {s : RS} (h : s.at' ≤ bs.length) : (rdNum bs s).2.at' ≤ bs.length := rdTake_le h
def rdManyA (bs : List UInt8) (s : RS) : RS := if (rdNum bs s).1 < 0 then rdRefuse s.at' 4 (rdNum bs s).2 else (rdNum bs s).2
def rdManyB (bs : List UInt8) (s : RS) : RS := if (rdManyA bs s).e = 0 ∧ (rdNum bs s).1 > ((bs.length - (rdManyA bs s).at' : Nat) : Int) then rdRefuse bs.length 2 (rdManyA bs s) else rdManyA bs s
def rdMany (bs : List UInt8) (s : RS) : Nat × RS := (if (rdManyB bs s).e = 0 then (rdNum bs s).1.toNat else 0, rdManyB bs s)
theorem rdManyA_le {bs : List UInt8} {s : RS} (h : s.at' ≤ bs.length) : (rdManyA bs s).at' ≤ bs.length := by
 unfold rdManyA; split
 rw [rdRefuse_at]; exact rdNum_le h
 exact rdNum_le h
theorem rdManyB_le {bs : List UInt8} {s : RS} (h : s.at' ≤ bs.length) : (rdManyB bs s).at' ≤ bs.length := by
 unfold rdManyB; split
 rw [rdRefuse_at]; exact rdManyA_le h
 exact rdManyA_le h
theorem rdMany_le {bs : List UInt8} {s : RS} (h : s.at' ≤ bs.length) : (rdMany bs s).2.at' ≤ bs.length := rdManyB_le h
theorem rdMany_nonneg {bs : List UInt8} {s : RS} (he : (rdManyB bs s).e = 0) : 0 ≤ (rdNum bs s).1 ∧ (rdNum bs s).1 ≤ ((bs.length - (rdManyB bs s).at' : Nat) : Int) := by
 have ref : ∀ (a e : Int) (s : RS), e ≠ 0 → (rdRefuse a e s).e ≠ 0 := fun a e s h => by unfold rdRefuse; split <;> simp_all
 have ha : (rdManyA bs s).e = 0 ∧ rdManyB bs s = rdManyA bs s ∧ ¬ (rdNum bs s).1 > ((bs.length - (rdManyA bs s).at' : Nat) : Int) := by
  unfold rdManyB at he ⊢
  split at he
  ·exact absurd he (ref _ _ _ (by decide))
  ·rename_i h
   rw [if_neg h]
   exact ⟨he, rfl, fun h2 => h ⟨he, h2⟩⟩
 have hn : ¬ (rdNum bs s).1 < 0 := fun h => by
  have h2 := ha.1
  unfold rdManyA at h2
  rw [if_pos h] at h2
  exact ref _ _ _ (by decide) h2
 rw [ha.2.1]
 exact ⟨by omega, by omega⟩
def rdText (bs : List UInt8) (s : RS) : ByteArray × RS := (⟨(rdTake bs (rdMany bs s).1 (rdMany bs s).2).1.toArray⟩, (rdTake bs (rdMany bs s).1 (rdMany bs s).2).2)
theorem rdText_le {bs : List UInt8} {s : RS} (h : s.at' ≤ bs.length) : (rdText bs s).2.at' ≤ bs.length := rdTake_le (rdMany_le h)
def rdTruth (bs : List UInt8) (s : RS) : Bool × RS := (decide ((rdByte bs s).1 = 1), if (rdByte bs s).1 > 1 then rdRefuse s.at' 203 (rdByte bs s).2 else (rdByte bs s).2)
theorem rdTruth_le {bs : List UInt8} {s : RS} (h : s.at' ≤ bs.length) : (rdTruth bs s).2.at' ≤ bs.length := by
 unfold rdTruth; dsimp only; split
 rw [rdRefuse_at]; exact rdByte_le h
 exact rdByte_le h
theorem rdMany_small {bs : List UInt8} {s : RS} (h : s.at' ≤ bs.length) : (rdMany bs s).1 ≤ bs.length := by
 unfold rdMany; dsimp only; split
 rename_i he; have := rdMany_nonneg he; omega
 omega
theorem conv_text {d : Nat} {l : List UInt8} : aToString Tryz.prog 28 9 (PV.sl d 1 (l.map brow)) = some (ps ⟨l.toArray⟩) := by
 have h1 : Tryz.prog.underlying 28 = some (.slice 5) := by kernel_rfl
 have h2 : Tryz.prog.underlying 9 = some .string := by kernel_rfl
 have h3 : Tryz.prog.underlying 5 = some (.int .u8) := by kernel_rfl
 cases l with
 | nil => simp only [aToString, h1, h2, PV.sl, List.map_nil, h3]; rfl
 | cons b l =>
  have := bytesOfRows_map (b :: l)
  simp only [List.map_cons] at this
  simp [aToString, h1, h2, PV.sl, h3, this]
theorem conv_none {d : Nat} {l : List UInt8} : aConvert Tryz.prog 28 9 (PV.sl d 1 (l.map brow)) = none := by
 have h1 : Tryz.prog.underlying 28 = some (.slice 5) := by kernel_rfl
 have h2 : Tryz.prog.underlying 9 = some .string := by kernel_rfl
 cases l <;> simp [aConvert, h1, h2, PV.sl]
theorem manyIs (H : AS) (id : Nat) (bs : List UInt8) (c : Nat) (s : RS) (hr : RdOk H id bs c s) : ACalls Tryz.prog 53 [.ptr id 1 0 0] H fun q H' => q = pi ((rdMany bs s).1 : Nat) ∧ H' = H.setBox id [rrow bs c (rdMany bs s).2] := by
 refine ACalls_intro Tryz.func53 rfl (by kernel_rfl) (by simp) fun hwf hbel => ?_
 have hle := hr.le
 have hsm := hr.small
 have hA := rdManyA_le (s := s) hle
 have hid := hr.lt hwf
 refine T_sr fun K0 hK0 => ?_
 simp [frame0]
 apply hK0
 refine T_sr fun K1 hK1 => ?_
 simp [aFieldAddr, aload, partOf, frame0, hr.box, rrow]
 apply hK1
 refine T_sr fun K2 hK2 => ?_
 simp [frame0]
 refine callK.of (numIs _ id bs c s hr) ?_
 rintro _ Hz ⟨rfl, hz⟩
 subst Hz
 simp [frame0]
 apply hK2
 refine T_mid (fun F H' => F 0 = .ptr id 1 0 0 ∧ F 4 = pi (rdNum bs s).1 ∧ H' = H.setBox id [rrow bs c (rdManyA bs s)]) ?_ ?_
 refine T_sr fun K3 hK3 => ?_
 simp [aBin, aBinV, frame0]
 apply hK3
 refine T_cond (rfl) (fun c0 => ?_) (fun c0 => ?_)
 refine T_rg ?_
 simp [frame0]
 refine callK.of (refuseIs _ id bs c _ (hr.set (rdNum_le hle)) _ _) ?_
 rintro _ H2 ⟨rfl, rfl⟩
 simp [frame0]
 first
  | (have hn : (rdNum bs s).1 < 0 := by simpa using c0
     simp [rdManyA, hn, setBox_setBox])
  | (have hn : ¬ (rdNum bs s).1 < 0 := by simpa using c0
     simp [frame0, rdManyA, hn])
 refine T_skip ?_
 try simp only [kn]
 first
  | (have hn : (rdNum bs s).1 < 0 := by simpa using c0
     simp [rdManyA, hn, setBox_setBox])
  | (have hn : ¬ (rdNum bs s).1 < 0 := by simpa using c0
     simp [frame0, rdManyA, hn])
 rintro F H' ⟨g0, g4, rfl⟩
 refine T_mid (fun F H' => F 0 = .ptr id 1 0 0 ∧ F 4 = pi (rdNum bs s).1 ∧ H' = H.setBox id [rrow bs c (rdManyB bs s)]) ?_ ?_
 refine T_mid (fun F H' => F 0 = .ptr id 1 0 0 ∧ F 4 = pi (rdNum bs s).1 ∧ F 34 = pb (decide ((rdManyA bs s).e = 0 ∧ (rdNum bs s).1 > ((bs.length - (rdManyA bs s).at' : Nat) : Int))) ∧ H' = H.setBox id [rrow bs c (rdManyA bs s)]) ?_ ?_
 ·refine T_draw (fun i => i = id) [] (.free 0 (.free 1 (.free 2 (.free 3 (.free 4 (.free 5 (.free 6 (.free 7 (.free 8 (.free 9 (.free 10 (.free 11 (.free 12 (.free 13 (.free 14 (.free 15 (.free 16 (.free 17 (.free 18 .done))))))))))))))))))) mix ?_ ?_ ?_
  ·kernel_rfl
  ·kernel_rfl
  have hA2 := (hr.set hA).box
  by_cases he : (rdManyA bs s).e = 0 <;> simp [Keeps, Same, ↓wanted_some, aFieldAddr, aload, partOf, aBin, aBinV, aLen, frame0, g0, g4, hA2, rrow, int_beq, he, wsub (show (rdManyA bs s).at' ≤ bs.length from hA) hsm]
  all_goals simp_all
 rintro F H' ⟨g0, g4, g34, rfl⟩
 refine T_cond (by first | rfl | exact g0 | exact g4 | exact g0 | exact g4 | exact g34) (fun c1 => ?_) (fun c1 => ?_)
 refine T_rg ?_
 simp [aFieldAddr, aload, partOf, aLen, frame0, g0, g4, g34, (hr.set hA).box, rrow]
 refine callK.of (refuseIs _ id bs c _ (hr.set hA) _ _) ?_
 rintro _ H2 ⟨rfl, rfl⟩
 simp [aFieldAddr, aload, partOf, aLen, frame0, g0, g4, g34, (hr.set hA).box, rrow]
 first
  | (have hn := of_decide_eq_true c1
     unfold rdManyB; rw [if_pos hn]; simp_all [setBox_setBox])
  | (have hn := of_decide_eq_false c1
     unfold rdManyB; rw [if_neg hn]; simp_all)
 refine T_skip ?_
 try simp only [kn]
 first
  | (have hn := of_decide_eq_true c1
     unfold rdManyB; rw [if_pos hn]; simp_all [setBox_setBox])
  | (have hn := of_decide_eq_false c1
     unfold rdManyB; rw [if_neg hn]; simp_all)
 rintro F H' ⟨g0, g4, rfl⟩
 refine T_seqk fun K4 hK4 => ?_
 refine T_sr fun K5 hK5 => ?_
 simp [aFieldAddr, aload, partOf, aBin, aBinV, frame0, g0, g4, (hr.set (rdManyB_le hle)).box, rrow, int_bne]
 apply hK5
 refine T_cond (by first | rfl | exact g0 | exact g4 | exact g0 | exact g4) (fun c2 => ?_) (fun c2 => ?_)
 refine T_sr fun K6 hK6 => ?_
 simp [frame0, g0, g4]
 apply hK6
 refine T_ret ?_
 try simp only [kr]
 have he : ¬ (rdManyB bs s).e = 0 := by simpa using c2
 exact owes_one_at (.inr rfl) (hr.wf hwf _) (by simp) rfl (by simp [rdMany, he]) (.refl _) (by simp) (by simp)
 refine T_skip ?_
 try simp only [kn]
 apply hK4
 refine T_sr fun K7 hK7 => ?_
 simp [frame0, g0, g4]
 apply hK7
 refine T_ret ?_
 try simp only [kr]
 have he : (rdManyB bs s).e = 0 := by simpa using c2
 have hnn := (rdMany_nonneg he).1
 exact owes_one_at (.inr rfl) (hr.wf hwf _) (by simp) rfl (by simp [rdMany, he]; omega) (.refl _) (by simp) (by simp)
theorem textIs (H : AS) (id : Nat) (bs : List UInt8) (c : Nat) (s : RS) (hr : RdOk H id bs c s) : ACalls Tryz.prog 21 [.ptr id 1 0 0] H fun q H' => q = ps (rdText bs s).1 ∧ H' = H.setBox id [rrow bs c (rdText bs s).2] := by
 refine ACalls_intro Tryz.func21 rfl (by kernel_rfl) (by simp) fun hwf hbel => ?_
 have hle := hr.le
 have hsm := hr.small
 have hmm := rdMany_small (s := s) hle
 refine T_sr fun K0 hK0 => ?_
 simp [frame0]
 apply hK0
 refine T_sr fun K1 hK1 => ?_
 simp [frame0, conv_text, conv_none]
 refine callK.of (manyIs _ id bs c s hr) ?_
 rintro _ Hz ⟨rfl, hz⟩
 subst Hz
 simp [frame0, conv_text, conv_none]
 refine callK.of (takeIs _ id bs c _ (hr.set (rdMany_le hle)) _ (by omega)) ?_
 rintro _ H2 ⟨⟨d, rfl⟩, rfl⟩
 simp [frame0, conv_text, conv_none]
 apply hK1
 refine T_ret ?_
 try simp only [kr]
 exact owes_one_at (.inr rfl) (hr.wf hwf (rdText bs s).2) (by simp) rfl rfl (by rw [setBox_setBox]; exact .refl _) (by simp) (by simp)
theorem truthIs (H : AS) (id : Nat) (bs : List UInt8) (c : Nat) (s : RS) (hr : RdOk H id bs c s) : ACalls Tryz.prog 55 [.ptr id 1 0 0] H fun q H' => q = pb (rdTruth bs s).1 ∧ H' = H.setBox id [rrow bs c (rdTruth bs s).2] := by
 refine ACalls_intro Tryz.func55 rfl (by kernel_rfl) (by simp) fun hwf hbel => ?_
 have hle := hr.le
 refine T_sr fun K0 hK0 => ?_
 simp [frame0]
 apply hK0
 refine T_sr fun K1 hK1 => ?_
 simp [aFieldAddr, aload, partOf, frame0, hr.box, rrow]
 apply hK1
 refine T_sr fun K2 hK2 => ?_
 simp [frame0]
 refine callK.of (byteIs _ id bs c s hr) ?_
 rintro _ Hz ⟨rfl, hz⟩
 subst Hz
 simp [frame0]
 apply hK2
 refine T_mid (fun F H' => F 4 = pi (rdByte bs s).1 ∧ H' = H.setBox id [rrow bs c (rdTruth bs s).2]) ?_ ?_
 refine T_sr fun K3 hK3 => ?_
 simp [aBin, aBinV, frame0]
 apply hK3
 refine T_cond (rfl) (fun c0 => ?_) (fun c0 => ?_)
 refine T_rg ?_
 simp [frame0]
 refine callK.of (refuseIs _ id bs c _ (hr.set (rdByte_le hle)) _ _) ?_
 rintro _ H2 ⟨rfl, rfl⟩
 simp [frame0]
 first
  | (have hn : (rdByte bs s).1 > 1 := by simpa using c0
     simp [rdTruth, hn, setBox_setBox])
  | (have hn : ¬ (rdByte bs s).1 > 1 := by simpa using c0
     simp [rdTruth, hn])
 refine T_skip ?_
 try simp only [kn]
 first
  | (have hn : (rdByte bs s).1 > 1 := by simpa using c0
     simp [rdTruth, hn, setBox_setBox])
  | (have hn : ¬ (rdByte bs s).1 > 1 := by simpa using c0
     simp [rdTruth, hn])
 rintro F H' ⟨g4, rfl⟩
 refine T_sr fun K4 hK4 => ?_
 simp [aBin, aBinV, frame0, g4, int_beq]
 apply hK4
 refine T_ret ?_
 try simp only [kr]
 exact owes_one_at (.inr rfl) (hr.wf hwf _) (by simp) rfl rfl (.refl _) (by simp) (by simp)
structure Rdg (H H' : AS) (id : Nat) (bs : List UInt8) (c : Nat) (s : RS) : Prop where
 ok : RdOk H' id bs c s
 ext : (H.setBox id [rrow bs c s]).Ext H'
theorem Rdg.start {H : AS} {id : Nat} {bs : List UInt8} {c : Nat} {s : RS} (h : RdOk H id bs c s) : Rdg H H id bs c s := ⟨h, by rw [h.same]; exact .refl _⟩
theorem Rdg.step {H H' : AS} {id : Nat} {bs : List UInt8} {c : Nat} {s s' : RS} (h : Rdg H H' id bs c s) (hle : s'.at' ≤ bs.length) : Rdg H (H'.setBox id [rrow bs c s']) id bs c s' :=
 ⟨h.ok.set hle, ⟨h.ext.next, fun j hj => by
  by_cases e : j = id
  ·subst e; simp
  ·have := h.ext.box j hj
   simp only [box_setBox, e, if_false] at this ⊢; exact this, fun j hj => h.ext.mp j hj, h.ext.color⟩⟩
theorem Rdg.other {H H' : AS} {id : Nat} {bs : List UInt8} {c : Nat} {s : RS} {j : Nat} {rows : List (List PV)} (h : Rdg H H' id bs c s) (hj : H.next ≤ j) (hid : id < H.next) : Rdg H (H'.setBox j rows) id bs c s :=
 ⟨⟨by rw [box_setBox, if_neg (by omega)]; exact h.ok.box, h.ok.le, h.ok.small⟩, h.ext.setBox hj⟩
theorem Rdg.bump {H H' : AS} {id : Nat} {bs : List UInt8} {c : Nat} {s : RS} {n : Nat} (h : Rdg H H' id bs c s) : Rdg H (H'.bump n) id bs c s := ⟨⟨h.ok.box, h.ok.le, h.ok.small⟩, h.ext.bump⟩
theorem byte_small (bs : List UInt8) (s : RS) : 0 ≤ (rdByte bs s).1 ∧ (rdByte bs s).1 < 256 := by
 have := ((rdTake bs 1 s).1.head?.getD 0).toNat_lt
 unfold rdByte; dsimp only; omega
theorem conv_kind (bs : List UInt8) (s : RS) : aConvert Tryz.prog 3 39 (pi (rdByte bs s).1) = some (.val (.int .u8 (rdByte bs s).1)) := by
 have := byte_small bs s
 simp [aConvert]; exact wrap_u8 this.1 this.2
def rdVal (bs : List UInt8) (s : RS) : DVal × RS :=
 ({ kind := (rdByte bs s).1, bits := IntKind.u64.wrap (rdNum bs (rdByte bs s).2).1, text := (rdText bs (rdNum bs (rdByte bs s).2).2).1 }, (rdText bs (rdNum bs (rdByte bs s).2).2).2)
theorem rdVal_le {bs : List UInt8} {s : RS} (h : s.at' ≤ bs.length) : (rdVal bs s).2.at' ≤ bs.length := rdText_le (rdNum_le (rdByte_le h))
def rdLoop (bs : List UInt8) (s : RS) : DLoop × RS :=
 ({ head := (rdNum bs s).1, stop := (rdNum bs (rdNum bs s).2).1, times := (rdNum bs (rdNum bs (rdNum bs s).2).2).1 }, (rdNum bs (rdNum bs (rdNum bs s).2).2).2)
theorem rdLoop_le {bs : List UInt8} {s : RS} (h : s.at' ≤ bs.length) : (rdLoop bs s).2.at' ≤ bs.length := rdNum_le (rdNum_le (rdNum_le h))
theorem valueIs (H : AS) (id : Nat) (bs : List UInt8) (c : Nat) (s : RS) (hr : RdOk H id bs c s) : ACalls Tryz.prog 57 [.ptr id 1 0 0] H fun q H' => q = .agg (rdVal bs s).1.row ∧ H' = H.setBox id [rrow bs c (rdVal bs s).2] := by
 refine ACalls_intro Tryz.func57 rfl (by kernel_rfl) (by simp) fun hwf hbel => ?_
 have hid := hr.lt hwf
 have hx0 : ¬ H.next = id := by omega
 have hx1 : ¬ H.next + 1 = id := by omega
 have hy0 : ¬ id = H.next := by omega
 have hy1 : ¬ id = H.next + 1 := by omega
 refine T_mid (fun F H' => F 0 = .ptr id 1 0 0 ∧ F 2 = .ptr H.next 1 0 0 ∧ Rdg H H' id bs c s ∧ H'.box H.next = some [[.val (.int .u8 0), .val (.int .u64 0), .val (.string ⟨#[]⟩)]] ∧ H'.next = H.next + 1) ?_ ?_
 refine T_rg ?_
 simp [aalloc, frame0, hx0, hx1, hy0, hy1]
 exact ((Rdg.start hr).other (Nat.le_refl _) hid).bump
 rintro F H' ⟨g0, g2, hg, b2, hn⟩
 refine T_mid (fun F H' => F 0 = .ptr id 1 0 0 ∧ F 2 = .ptr H.next 1 0 0 ∧ F 3 = .ptr (H.next + 1) 1 0 0 ∧ Rdg H H' id bs c (rdByte bs s).2 ∧ H'.box H.next = some [[.val (.int .u8 0), .val (.int .u64 0), .val (.string ⟨#[]⟩)]] ∧ H'.box (H.next + 1) = some [[.val (.int .u8 (rdByte bs s).1), .val (.int .u64 0), .val (.string ⟨#[]⟩)]] ∧ H'.next = H.next + 2) ?_ ?_
 refine T_rg ?_
 simp [aBuild, aBuild.go, splice, aalloc, astore, frame0, hx0, hx1, hy0, hy1, g0, g2, hn, b2, conv_kind]
 refine callK.of (byteIs _ id bs c _ hg.ok) ?_
 rintro _ H2 ⟨rfl, rfl⟩
 simp [aBuild, aBuild.go, splice, aalloc, astore, frame0, hx0, hx1, hy0, hy1, g0, g2, hn, b2, conv_kind]
 exact ((((hg.step (rdByte_le hr.le)).other (by omega) hid).bump).other (by omega) hid)
 rintro F H' ⟨g0, g2, g3, hg, b2, b3, hn⟩
 refine T_mid (fun F H' => F 0 = .ptr id 1 0 0 ∧ F 2 = .ptr H.next 1 0 0 ∧ F 3 = .ptr (H.next + 1) 1 0 0 ∧ Rdg H H' id bs c (rdNum bs (rdByte bs s).2).2 ∧ H'.box H.next = some [[.val (.int .u8 0), .val (.int .u64 0), .val (.string ⟨#[]⟩)]] ∧ H'.box (H.next + 1) = some [[.val (.int .u8 (rdByte bs s).1), .val (.int .u64 (IntKind.u64.wrap (rdNum bs (rdByte bs s).2).1)), .val (.string ⟨#[]⟩)]] ∧ H'.next = H.next + 2) ?_ ?_
 refine T_rg ?_
 simp [aConvert, aFieldAddr, astore, splice, frame0, hx0, hx1, hy0, hy1, g0, g2, g3, hn, b2, b3]
 refine callK.of (numIs _ id bs c _ hg.ok) ?_
 rintro _ H2 ⟨rfl, rfl⟩
 simp [aConvert, aFieldAddr, astore, splice, frame0, hx0, hx1, hy0, hy1, g0, g2, g3, hn, b2, b3]
 exact (hg.step (rdNum_le (rdByte_le hr.le))).other (by omega) hid
 rintro F H' ⟨g0, g2, g3, hg, b2, b3, hn⟩
 refine T_mid (fun F H' => F 0 = .ptr id 1 0 0 ∧ F 2 = .ptr H.next 1 0 0 ∧ F 3 = .ptr (H.next + 1) 1 0 0 ∧ Rdg H H' id bs c (rdText bs (rdNum bs (rdByte bs s).2).2).2 ∧ H'.box H.next = some [[.val (.int .u8 0), .val (.int .u64 0), .val (.string ⟨#[]⟩)]] ∧ H'.box (H.next + 1) = some [(rdVal bs s).1.row] ∧ H'.next = H.next + 2) ?_ ?_
 refine T_rg ?_
 simp [aFieldAddr, astore, splice, frame0, hx0, hx1, hy0, hy1, g0, g2, g3, hn, b2, b3, rdVal, DVal.row]
 refine callK.of (textIs _ id bs c _ hg.ok) ?_
 rintro _ H2 ⟨rfl, rfl⟩
 simp [aFieldAddr, astore, splice, frame0, hx0, hx1, hy0, hy1, g0, g2, g3, hn, b2, b3, rdVal, DVal.row]
 exact (hg.step (rdText_le (rdNum_le (rdByte_le hr.le)))).other (by omega) hid
 rintro F H' ⟨g0, g2, g3, hg, b2, b3, hn⟩
 refine T_sr fun K0 hK0 => ?_
 simp [aload, partOf, astore, splice, frame0, hx0, hx1, hy0, hy1, g0, g2, g3, b2, b3, DVal.row]
 apply hK0
 refine T_ret ?_
 try simp only [kr]
 refine owes_one_at (H1 := H.setBox id [rrow bs c (rdVal bs s).2]) (.inr rfl) (hr.wf hwf _) (by simp) (by rw [show Tryz.f57.results.toList = [.cell 2 42] from rfl]; simp [aResults, aload, partOf, g2]; rfl) rfl (hg.ext.setBox (Nat.le_refl _)) (by simp [DVal.row]) (by simp [DVal.row])
theorem loopIs (H : AS) (id : Nat) (bs : List UInt8) (c : Nat) (s : RS) (hr : RdOk H id bs c s) : ACalls Tryz.prog 61 [.ptr id 1 0 0] H fun q H' => q = .agg (rdLoop bs s).1.row ∧ H' = H.setBox id [rrow bs c (rdLoop bs s).2] := by
 refine ACalls_intro Tryz.func61 rfl (by kernel_rfl) (by simp) fun hwf hbel => ?_
 have hid := hr.lt hwf
 have hx0 : ¬ H.next = id := by omega
 have hx1 : ¬ H.next + 1 = id := by omega
 have hy0 : ¬ id = H.next := by omega
 have hy1 : ¬ id = H.next + 1 := by omega
 refine T_mid (fun F H' => F 0 = .ptr id 1 0 0 ∧ F 2 = .ptr H.next 1 0 0 ∧ Rdg H H' id bs c s ∧ H'.box H.next = some [[pi 0, pi 0, pi 0]] ∧ H'.next = H.next + 1) ?_ ?_
 refine T_rg ?_
 simp [aalloc, frame0, hx0, hx1, hy0, hy1]
 exact ((Rdg.start hr).other (Nat.le_refl _) hid).bump
 rintro F H' ⟨g0, g2, hg, b2, hn⟩
 refine T_mid (fun F H' => F 0 = .ptr id 1 0 0 ∧ F 2 = .ptr H.next 1 0 0 ∧ F 3 = .ptr (H.next + 1) 1 0 0 ∧ Rdg H H' id bs c s ∧ H'.box H.next = some [[pi 0, pi 0, pi 0]] ∧ H'.box (H.next + 1) = some [[pi 0, pi 0, pi 0]] ∧ H'.next = H.next + 2) ?_ ?_
 refine T_rg ?_
 simp [aalloc, frame0, hx0, hx1, hy0, hy1, g0, g2, hn, b2]
 exact (hg.other (by omega) hid).bump
 rintro F H' ⟨g0, g2, g3, hg, b2, b3, hn⟩
 refine T_mid (fun F H' => F 0 = .ptr id 1 0 0 ∧ F 2 = .ptr H.next 1 0 0 ∧ F 3 = .ptr (H.next + 1) 1 0 0 ∧ Rdg H H' id bs c (rdNum bs s).2 ∧ H'.box H.next = some [[pi 0, pi 0, pi 0]] ∧ H'.box (H.next + 1) = some [[pi (rdNum bs s).1, pi 0, pi 0]] ∧ H'.next = H.next + 2) ?_ ?_
 refine T_rg ?_
 simp [aFieldAddr, astore, splice, frame0, hx0, hx1, hy0, hy1, g0, g2, g3, hn, b2, b3]
 refine callK.of (numIs _ id bs c _ hg.ok) ?_
 rintro _ H2 ⟨rfl, rfl⟩
 simp [aFieldAddr, astore, splice, frame0, hx0, hx1, hy0, hy1, g0, g2, g3, hn, b2, b3]
 exact (hg.step (rdNum_le hr.le)).other (by omega) hid
 rintro F H' ⟨g0, g2, g3, hg, b2, b3, hn⟩
 refine T_mid (fun F H' => F 0 = .ptr id 1 0 0 ∧ F 2 = .ptr H.next 1 0 0 ∧ F 3 = .ptr (H.next + 1) 1 0 0 ∧ Rdg H H' id bs c (rdNum bs (rdNum bs s).2).2 ∧ H'.box H.next = some [[pi 0, pi 0, pi 0]] ∧ H'.box (H.next + 1) = some [[pi (rdNum bs s).1, pi (rdNum bs (rdNum bs s).2).1, pi 0]] ∧ H'.next = H.next + 2) ?_ ?_
 refine T_rg ?_
 simp [aFieldAddr, astore, splice, frame0, hx0, hx1, hy0, hy1, g0, g2, g3, hn, b2, b3]
 refine callK.of (numIs _ id bs c _ hg.ok) ?_
 rintro _ H2 ⟨rfl, rfl⟩
 simp [aFieldAddr, astore, splice, frame0, hx0, hx1, hy0, hy1, g0, g2, g3, hn, b2, b3]
 exact (hg.step (rdNum_le (rdNum_le hr.le))).other (by omega) hid
 rintro F H' ⟨g0, g2, g3, hg, b2, b3, hn⟩
 refine T_mid (fun F H' => F 0 = .ptr id 1 0 0 ∧ F 2 = .ptr H.next 1 0 0 ∧ F 3 = .ptr (H.next + 1) 1 0 0 ∧ Rdg H H' id bs c (rdNum bs (rdNum bs (rdNum bs s).2).2).2 ∧ H'.box H.next = some [[pi 0, pi 0, pi 0]] ∧ H'.box (H.next + 1) = some [(rdLoop bs s).1.row] ∧ H'.next = H.next + 2) ?_ ?_
 refine T_rg ?_
 simp [aFieldAddr, astore, splice, frame0, hx0, hx1, hy0, hy1, g0, g2, g3, hn, b2, b3, rdLoop, DLoop.row]
 refine callK.of (numIs _ id bs c _ hg.ok) ?_
 rintro _ H2 ⟨rfl, rfl⟩
 simp [aFieldAddr, astore, splice, frame0, hx0, hx1, hy0, hy1, g0, g2, g3, hn, b2, b3, rdLoop, DLoop.row]
 exact (hg.step (rdNum_le (rdNum_le (rdNum_le hr.le)))).other (by omega) hid
 rintro F H' ⟨g0, g2, g3, hg, b2, b3, hn⟩
 refine T_sr fun K0 hK0 => ?_
 simp [aload, partOf, astore, splice, frame0, hx0, hx1, hy0, hy1, g0, g2, g3, b2, b3, DLoop.row]
 apply hK0
 refine T_ret ?_
 try simp only [kr]
 refine owes_one_at (H1 := H.setBox id [rrow bs c (rdLoop bs s).2]) (.inr rfl) (hr.wf hwf _) (by simp) (by rw [show Tryz.f61.results.toList = [.cell 2 52] from rfl]; simp [aResults, aload, partOf, g2]; rfl) rfl (hg.ext.setBox (Nat.le_refl _)) (by simp [DLoop.row]) (by simp [DLoop.row])
def rdCell (bs : List UInt8) (s : RS) : DCell × RS :=
 ({ kind := (rdByte bs s).1, sub := (rdTruth bs (rdByte bs s).2).1, lo := (rdNum bs (rdTruth bs (rdByte bs s).2).2).1, hi := (rdNum bs (rdNum bs (rdTruth bs (rdByte bs s).2).2).2).1, max := (rdNum bs (rdNum bs (rdNum bs (rdTruth bs (rdByte bs s).2).2).2).2).1, init := (rdVal bs (rdNum bs (rdNum bs (rdNum bs (rdTruth bs (rdByte bs s).2).2).2).2).2).1, keep := (rdTruth bs (rdVal bs (rdNum bs (rdNum bs (rdNum bs (rdTruth bs (rdByte bs s).2).2).2).2).2).2).1, dir := (rdByte bs (rdTruth bs (rdVal bs (rdNum bs (rdNum bs (rdNum bs (rdTruth bs (rdByte bs s).2).2).2).2).2).2).2).1, addr := (rdText bs (rdByte bs (rdTruth bs (rdVal bs (rdNum bs (rdNum bs (rdNum bs (rdTruth bs (rdByte bs s).2).2).2).2).2).2).2).2).1 }, (rdText bs (rdByte bs (rdTruth bs (rdVal bs (rdNum bs (rdNum bs (rdNum bs (rdTruth bs (rdByte bs s).2).2).2).2).2).2).2).2).2)
theorem rdCell_le {bs : List UInt8} {s : RS} (h : s.at' ≤ bs.length) : (rdCell bs s).2.at' ≤ bs.length := (rdText_le (rdByte_le (rdTruth_le (rdVal_le (rdNum_le (rdNum_le (rdNum_le (rdTruth_le (rdByte_le h)))))))))
def rdNums (bs : List UInt8) : Nat → RS → List Int × RS
 | 0, s => ([], s)
 | n + 1, s => ((rdNums bs n s).1 ++ [(rdNum bs (rdNums bs n s).2).1], (rdNum bs (rdNums bs n s).2).2)
theorem rdNums_le {bs : List UInt8} {n : Nat} {s : RS} (h : s.at' ≤ bs.length) : (rdNums bs n s).2.at' ≤ bs.length := by
 induction n with
 | zero => exact h
 | succ n ih => exact rdNum_le ih
@[simp] theorem rdNums_length {bs : List UInt8} {n : Nat} {s : RS} : (rdNums bs n s).1.length = n := by
 induction n with
 | zero => rfl
 | succ n ih => simp [rdNums, ih]
def prow (pre : List PV) (n : Nat) (nums : List Int) (post : List PV) : List PV := pre ++ (nums.map (fun x => pi x) ++ (List.replicate (n - nums.length) (pi 0) ++ post))
theorem prow_length {pre : List PV} {n : Nat} {nums : List Int} {post : List PV} (h : nums.length ≤ n) : (prow pre n nums post).length = pre.length + n + post.length := by simp [prow]; omega
theorem prow_step {pre : List PV} {n i o : Nat} {nums : List Int} {post : List PV} (hi : nums.length = i) (ho : pre.length = o) (h : i < n) (x : Int) : splice (prow pre n nums post) (o + i) [pi x] = prow pre n (nums ++ [x]) post := by
 subst hi; subst ho
 unfold splice prow
 rw [show n - nums.length = (n - (nums.length + 1)) + 1 by omega, List.replicate_succ]
 have e1 : (pre ++ (nums.map (fun x => pi x) ++ (pi 0 :: List.replicate (n - (nums.length + 1)) (pi 0) ++ post))).take (pre.length + nums.length) = pre ++ nums.map (fun x => pi x) := by
  rw [← List.append_assoc, List.take_left' (by simp)]
 have e2 : (pre ++ (nums.map (fun x => pi x) ++ (pi 0 :: List.replicate (n - (nums.length + 1)) (pi 0) ++ post))).drop (pre.length + nums.length + 1) = List.replicate (n - (nums.length + 1)) (pi 0) ++ post := by
  rw [← List.append_assoc, List.drop_append, List.drop_eq_nil_of_le (by simp)]
  simp
 simp only [List.length_singleton]
 rw [e1, e2]
 simp
def ptrs (id o n : Nat) : List (List PV) := (List.range n).map fun k => [.ptr id 1 0 (o + k)]
@[simp] theorem ptrs_length (id o n : Nat) : (ptrs id o n).length = n := by simp [ptrs]
theorem ptrs_get {id o n i : Nat} (h : i < n) : (ptrs id o n)[i]? = some [.ptr id 1 0 (o + i)] := by simp [ptrs, h]
@[simp] theorem frozen_ptr (id vl row off : Nat) : Frozen (.ptr id vl row off) := trivial
theorem list7 {l : List Int} (h : l.length = 7) : l = [l.getD 0 0, l.getD 1 0, l.getD 2 0, l.getD 3 0, l.getD 4 0, l.getD 5 0, l.getD 6 0] := by
 match l, h with
 | [_, _, _, _, _, _, _], _ => rfl
theorem list5 {l : List Int} (h : l.length = 5) : l = [l.getD 0 0, l.getD 1 0, l.getD 2 0, l.getD 3 0, l.getD 4 0] := by
 match l, h with
 | [_, _, _, _, _], _ => rfl
theorem list3 {l : List Int} (h : l.length = 3) : l = [l.getD 0 0, l.getD 1 0, l.getD 2 0] := by
 match l, h with
 | [_, _, _], _ => rfl
def rdOp (bs : List UInt8) (s : RS) : DOp × RS :=
 let l := rdNums bs 7 s
 let v := rdVal bs l.2
 ({ code := l.1.getD 0 0, a := l.1.getD 1 0, b := l.1.getD 2 0, c := l.1.getD 3 0, d := l.1.getD 4 0, lo := l.1.getD 5 0, hi := l.1.getD 6 0, value := v.1 }, v.2)
theorem rdOp_le {bs : List UInt8} {s : RS} (h : s.at' ≤ bs.length) : (rdOp bs s).2.at' ≤ bs.length := rdVal_le (rdNums_le h)
theorem part_ptr (p : PV) (h : p.atomic = true) : partOf Tryz.prog 105 [p] 0 = some p := by simp [partOf]
theorem cellIs (H : AS) (id : Nat) (bs : List UInt8) (c : Nat) (s : RS) (hr : RdOk H id bs c s) : ACalls Tryz.prog 23 [.ptr id 1 0 0] H fun q H' => q = .agg (rdCell bs s).1.row ∧ H' = H.setBox id [rrow bs c (rdCell bs s).2] := by
 refine ACalls_intro Tryz.func23 rfl (by kernel_rfl) (by simp) fun hwf hbel => ?_
 have hid := hr.lt hwf
 have hx0 : ¬ H.next = id := by omega
 have hx1 : ¬ H.next + 1 = id := by omega
 have hy0 : ¬ id = H.next := by omega
 have hy1 : ¬ id = H.next + 1 := by omega
 refine T_mid (fun F H' => F 0 = .ptr id 1 0 0 ∧ F 2 = .ptr H.next 1 0 0 ∧ Rdg H H' id bs c s ∧ H'.box H.next = some [[.val (.int .u8 0), .val (.bool false), pi 0, pi 0, pi 0, .val (.int .u8 0), .val (.int .u64 0), .val (.string ⟨#[]⟩), .val (.bool false), pi 0, .val (.string ⟨#[]⟩)]] ∧ H'.next = H.next + 1) ?_ ?_
 refine T_rg ?_
 simp [aalloc, frame0, hx0, hx1, hy0, hy1]
 exact ((Rdg.start hr).other (Nat.le_refl _) hid).bump
 rintro F H' ⟨g0, g2, hg, b2, hn⟩
 refine T_mid (fun F H' => F 0 = .ptr id 1 0 0 ∧ F 2 = .ptr H.next 1 0 0 ∧ F 3 = .ptr (H.next + 1) 1 0 0 ∧ Rdg H H' id bs c (rdByte bs s).2 ∧ H'.box H.next = some [[.val (.int .u8 0), .val (.bool false), pi 0, pi 0, pi 0, .val (.int .u8 0), .val (.int .u64 0), .val (.string ⟨#[]⟩), .val (.bool false), pi 0, .val (.string ⟨#[]⟩)]] ∧ H'.box (H.next + 1) = some [[.val (.int .u8 (rdByte bs s).1), .val (.bool false), pi 0, pi 0, pi 0, .val (.int .u8 0), .val (.int .u64 0), .val (.string ⟨#[]⟩), .val (.bool false), pi 0, .val (.string ⟨#[]⟩)]] ∧ H'.next = H.next + 2) ?_ ?_
 refine T_rg ?_
 simp [aBuild, aBuild.go, splice, aalloc, astore, frame0, hx0, hx1, hy0, hy1, g0, g2, hn, b2, conv_kind]
 refine callK.of (byteIs _ id bs c _ hg.ok) ?_
 rintro _ H2 ⟨rfl, rfl⟩
 simp [aBuild, aBuild.go, splice, aalloc, astore, frame0, hx0, hx1, hy0, hy1, g0, g2, hn, b2, conv_kind]
 exact ((((hg.step (rdByte_le hr.le)).other (by omega) hid).bump).other (by omega) hid)
 rintro F H' ⟨g0, g2, g3, hg, b2, b3, hn⟩
 refine T_mid (fun F H' => F 0 = .ptr id 1 0 0 ∧ F 2 = .ptr H.next 1 0 0 ∧ F 3 = .ptr (H.next + 1) 1 0 0 ∧ Rdg H H' id bs c (rdTruth bs (rdByte bs s).2).2 ∧ H'.box H.next = some [[.val (.int .u8 0), .val (.bool false), pi 0, pi 0, pi 0, .val (.int .u8 0), .val (.int .u64 0), .val (.string ⟨#[]⟩), .val (.bool false), pi 0, .val (.string ⟨#[]⟩)]] ∧ H'.box (H.next + 1) = some [[.val (.int .u8 (rdByte bs s).1), pb (rdTruth bs (rdByte bs s).2).1, pi 0, pi 0, pi 0, .val (.int .u8 0), .val (.int .u64 0), .val (.string ⟨#[]⟩), .val (.bool false), pi 0, .val (.string ⟨#[]⟩)]] ∧ H'.next = H.next + 2) ?_ ?_
 refine T_rg ?_
 simp [aFieldAddr, astore, splice, frame0, hx0, hx1, hy0, hy1, g0, g2, g3, hn, b2, b3]
 refine callK.of (truthIs _ id bs c _ hg.ok) ?_
 rintro _ H2 ⟨rfl, rfl⟩
 simp [aFieldAddr, astore, splice, frame0, hx0, hx1, hy0, hy1, g0, g2, g3, hn, b2, b3]
 exact (hg.step (rdTruth_le (rdByte_le hr.le))).other (by omega) hid
 rintro F H' ⟨g0, g2, g3, hg, b2, b3, hn⟩
 refine T_mid (fun F H' => F 0 = .ptr id 1 0 0 ∧ F 2 = .ptr H.next 1 0 0 ∧ F 3 = .ptr (H.next + 1) 1 0 0 ∧ Rdg H H' id bs c (rdNum bs (rdTruth bs (rdByte bs s).2).2).2 ∧ H'.box H.next = some [[.val (.int .u8 0), .val (.bool false), pi 0, pi 0, pi 0, .val (.int .u8 0), .val (.int .u64 0), .val (.string ⟨#[]⟩), .val (.bool false), pi 0, .val (.string ⟨#[]⟩)]] ∧ H'.box (H.next + 1) = some [[.val (.int .u8 (rdByte bs s).1), pb (rdTruth bs (rdByte bs s).2).1, pi (rdNum bs (rdTruth bs (rdByte bs s).2).2).1, pi 0, pi 0, .val (.int .u8 0), .val (.int .u64 0), .val (.string ⟨#[]⟩), .val (.bool false), pi 0, .val (.string ⟨#[]⟩)]] ∧ H'.next = H.next + 2) ?_ ?_
 refine T_rg ?_
 simp [aFieldAddr, astore, splice, frame0, hx0, hx1, hy0, hy1, g0, g2, g3, hn, b2, b3]
 refine callK.of (numIs _ id bs c _ hg.ok) ?_
 rintro _ H2 ⟨rfl, rfl⟩
 simp [aFieldAddr, astore, splice, frame0, hx0, hx1, hy0, hy1, g0, g2, g3, hn, b2, b3]
 exact (hg.step (rdNum_le (rdTruth_le (rdByte_le hr.le)))).other (by omega) hid
 rintro F H' ⟨g0, g2, g3, hg, b2, b3, hn⟩
 refine T_mid (fun F H' => F 0 = .ptr id 1 0 0 ∧ F 2 = .ptr H.next 1 0 0 ∧ F 3 = .ptr (H.next + 1) 1 0 0 ∧ Rdg H H' id bs c (rdNum bs (rdNum bs (rdTruth bs (rdByte bs s).2).2).2).2 ∧ H'.box H.next = some [[.val (.int .u8 0), .val (.bool false), pi 0, pi 0, pi 0, .val (.int .u8 0), .val (.int .u64 0), .val (.string ⟨#[]⟩), .val (.bool false), pi 0, .val (.string ⟨#[]⟩)]] ∧ H'.box (H.next + 1) = some [[.val (.int .u8 (rdByte bs s).1), pb (rdTruth bs (rdByte bs s).2).1, pi (rdNum bs (rdTruth bs (rdByte bs s).2).2).1, pi (rdNum bs (rdNum bs (rdTruth bs (rdByte bs s).2).2).2).1, pi 0, .val (.int .u8 0), .val (.int .u64 0), .val (.string ⟨#[]⟩), .val (.bool false), pi 0, .val (.string ⟨#[]⟩)]] ∧ H'.next = H.next + 2) ?_ ?_
 refine T_rg ?_
 simp [aFieldAddr, astore, splice, frame0, hx0, hx1, hy0, hy1, g0, g2, g3, hn, b2, b3]
 refine callK.of (numIs _ id bs c _ hg.ok) ?_
 rintro _ H2 ⟨rfl, rfl⟩
 simp [aFieldAddr, astore, splice, frame0, hx0, hx1, hy0, hy1, g0, g2, g3, hn, b2, b3]
 exact (hg.step (rdNum_le (rdNum_le (rdTruth_le (rdByte_le hr.le))))).other (by omega) hid
 rintro F H' ⟨g0, g2, g3, hg, b2, b3, hn⟩
 refine T_mid (fun F H' => F 0 = .ptr id 1 0 0 ∧ F 2 = .ptr H.next 1 0 0 ∧ F 3 = .ptr (H.next + 1) 1 0 0 ∧ Rdg H H' id bs c (rdNum bs (rdNum bs (rdNum bs (rdTruth bs (rdByte bs s).2).2).2).2).2 ∧ H'.box H.next = some [[.val (.int .u8 0), .val (.bool false), pi 0, pi 0, pi 0, .val (.int .u8 0), .val (.int .u64 0), .val (.string ⟨#[]⟩), .val (.bool false), pi 0, .val (.string ⟨#[]⟩)]] ∧ H'.box (H.next + 1) = some [[.val (.int .u8 (rdByte bs s).1), pb (rdTruth bs (rdByte bs s).2).1, pi (rdNum bs (rdTruth bs (rdByte bs s).2).2).1, pi (rdNum bs (rdNum bs (rdTruth bs (rdByte bs s).2).2).2).1, pi (rdNum bs (rdNum bs (rdNum bs (rdTruth bs (rdByte bs s).2).2).2).2).1, .val (.int .u8 0), .val (.int .u64 0), .val (.string ⟨#[]⟩), .val (.bool false), pi 0, .val (.string ⟨#[]⟩)]] ∧ H'.next = H.next + 2) ?_ ?_
 refine T_rg ?_
 simp [aFieldAddr, astore, splice, frame0, hx0, hx1, hy0, hy1, g0, g2, g3, hn, b2, b3]
 refine callK.of (numIs _ id bs c _ hg.ok) ?_
 rintro _ H2 ⟨rfl, rfl⟩
 simp [aFieldAddr, astore, splice, frame0, hx0, hx1, hy0, hy1, g0, g2, g3, hn, b2, b3]
 exact (hg.step (rdNum_le (rdNum_le (rdNum_le (rdTruth_le (rdByte_le hr.le)))))).other (by omega) hid
 rintro F H' ⟨g0, g2, g3, hg, b2, b3, hn⟩
 refine T_mid (fun F H' => F 0 = .ptr id 1 0 0 ∧ F 2 = .ptr H.next 1 0 0 ∧ F 3 = .ptr (H.next + 1) 1 0 0 ∧ Rdg H H' id bs c (rdVal bs (rdNum bs (rdNum bs (rdNum bs (rdTruth bs (rdByte bs s).2).2).2).2).2).2 ∧ H'.box H.next = some [[.val (.int .u8 0), .val (.bool false), pi 0, pi 0, pi 0, .val (.int .u8 0), .val (.int .u64 0), .val (.string ⟨#[]⟩), .val (.bool false), pi 0, .val (.string ⟨#[]⟩)]] ∧ H'.box (H.next + 1) = some [[.val (.int .u8 (rdByte bs s).1), pb (rdTruth bs (rdByte bs s).2).1, pi (rdNum bs (rdTruth bs (rdByte bs s).2).2).1, pi (rdNum bs (rdNum bs (rdTruth bs (rdByte bs s).2).2).2).1, pi (rdNum bs (rdNum bs (rdNum bs (rdTruth bs (rdByte bs s).2).2).2).2).1, .val (.int .u8 (rdVal bs (rdNum bs (rdNum bs (rdNum bs (rdTruth bs (rdByte bs s).2).2).2).2).2).1.kind), .val (.int .u64 (rdVal bs (rdNum bs (rdNum bs (rdNum bs (rdTruth bs (rdByte bs s).2).2).2).2).2).1.bits), ps (rdVal bs (rdNum bs (rdNum bs (rdNum bs (rdTruth bs (rdByte bs s).2).2).2).2).2).1.text, .val (.bool false), pi 0, .val (.string ⟨#[]⟩)]] ∧ H'.next = H.next + 2) ?_ ?_
 refine T_rg ?_
 simp [aFieldAddr, astore, splice, frame0, hx0, hx1, hy0, hy1, g0, g2, g3, hn, b2, b3, DVal.row]
 refine callK.of (valueIs _ id bs c _ hg.ok) ?_
 rintro _ H2 ⟨rfl, rfl⟩
 simp [aFieldAddr, astore, splice, frame0, hx0, hx1, hy0, hy1, g0, g2, g3, hn, b2, b3, DVal.row]
 exact (hg.step (rdVal_le (rdNum_le (rdNum_le (rdNum_le (rdTruth_le (rdByte_le hr.le))))))).other (by omega) hid
 rintro F H' ⟨g0, g2, g3, hg, b2, b3, hn⟩
 refine T_mid (fun F H' => F 0 = .ptr id 1 0 0 ∧ F 2 = .ptr H.next 1 0 0 ∧ F 3 = .ptr (H.next + 1) 1 0 0 ∧ Rdg H H' id bs c (rdTruth bs (rdVal bs (rdNum bs (rdNum bs (rdNum bs (rdTruth bs (rdByte bs s).2).2).2).2).2).2).2 ∧ H'.box H.next = some [[.val (.int .u8 0), .val (.bool false), pi 0, pi 0, pi 0, .val (.int .u8 0), .val (.int .u64 0), .val (.string ⟨#[]⟩), .val (.bool false), pi 0, .val (.string ⟨#[]⟩)]] ∧ H'.box (H.next + 1) = some [[.val (.int .u8 (rdByte bs s).1), pb (rdTruth bs (rdByte bs s).2).1, pi (rdNum bs (rdTruth bs (rdByte bs s).2).2).1, pi (rdNum bs (rdNum bs (rdTruth bs (rdByte bs s).2).2).2).1, pi (rdNum bs (rdNum bs (rdNum bs (rdTruth bs (rdByte bs s).2).2).2).2).1, .val (.int .u8 (rdVal bs (rdNum bs (rdNum bs (rdNum bs (rdTruth bs (rdByte bs s).2).2).2).2).2).1.kind), .val (.int .u64 (rdVal bs (rdNum bs (rdNum bs (rdNum bs (rdTruth bs (rdByte bs s).2).2).2).2).2).1.bits), ps (rdVal bs (rdNum bs (rdNum bs (rdNum bs (rdTruth bs (rdByte bs s).2).2).2).2).2).1.text, pb (rdTruth bs (rdVal bs (rdNum bs (rdNum bs (rdNum bs (rdTruth bs (rdByte bs s).2).2).2).2).2).2).1, pi 0, .val (.string ⟨#[]⟩)]] ∧ H'.next = H.next + 2) ?_ ?_
 refine T_rg ?_
 simp [aFieldAddr, astore, splice, frame0, hx0, hx1, hy0, hy1, g0, g2, g3, hn, b2, b3]
 refine callK.of (truthIs _ id bs c _ hg.ok) ?_
 rintro _ H2 ⟨rfl, rfl⟩
 simp [aFieldAddr, astore, splice, frame0, hx0, hx1, hy0, hy1, g0, g2, g3, hn, b2, b3]
 exact (hg.step (rdTruth_le (rdVal_le (rdNum_le (rdNum_le (rdNum_le (rdTruth_le (rdByte_le hr.le)))))))).other (by omega) hid
 rintro F H' ⟨g0, g2, g3, hg, b2, b3, hn⟩
 refine T_mid (fun F H' => F 0 = .ptr id 1 0 0 ∧ F 2 = .ptr H.next 1 0 0 ∧ F 3 = .ptr (H.next + 1) 1 0 0 ∧ Rdg H H' id bs c (rdByte bs (rdTruth bs (rdVal bs (rdNum bs (rdNum bs (rdNum bs (rdTruth bs (rdByte bs s).2).2).2).2).2).2).2).2 ∧ H'.box H.next = some [[.val (.int .u8 0), .val (.bool false), pi 0, pi 0, pi 0, .val (.int .u8 0), .val (.int .u64 0), .val (.string ⟨#[]⟩), .val (.bool false), pi 0, .val (.string ⟨#[]⟩)]] ∧ H'.box (H.next + 1) = some [[.val (.int .u8 (rdByte bs s).1), pb (rdTruth bs (rdByte bs s).2).1, pi (rdNum bs (rdTruth bs (rdByte bs s).2).2).1, pi (rdNum bs (rdNum bs (rdTruth bs (rdByte bs s).2).2).2).1, pi (rdNum bs (rdNum bs (rdNum bs (rdTruth bs (rdByte bs s).2).2).2).2).1, .val (.int .u8 (rdVal bs (rdNum bs (rdNum bs (rdNum bs (rdTruth bs (rdByte bs s).2).2).2).2).2).1.kind), .val (.int .u64 (rdVal bs (rdNum bs (rdNum bs (rdNum bs (rdTruth bs (rdByte bs s).2).2).2).2).2).1.bits), ps (rdVal bs (rdNum bs (rdNum bs (rdNum bs (rdTruth bs (rdByte bs s).2).2).2).2).2).1.text, pb (rdTruth bs (rdVal bs (rdNum bs (rdNum bs (rdNum bs (rdTruth bs (rdByte bs s).2).2).2).2).2).2).1, pi (rdByte bs (rdTruth bs (rdVal bs (rdNum bs (rdNum bs (rdNum bs (rdTruth bs (rdByte bs s).2).2).2).2).2).2).2).1, .val (.string ⟨#[]⟩)]] ∧ H'.next = H.next + 2) ?_ ?_
 refine T_rg ?_
 simp [aFieldAddr, astore, splice, frame0, hx0, hx1, hy0, hy1, g0, g2, g3, hn, b2, b3]
 refine callK.of (byteIs _ id bs c _ hg.ok) ?_
 rintro _ H2 ⟨rfl, rfl⟩
 simp [aFieldAddr, astore, splice, frame0, hx0, hx1, hy0, hy1, g0, g2, g3, hn, b2, b3]
 exact (hg.step (rdByte_le (rdTruth_le (rdVal_le (rdNum_le (rdNum_le (rdNum_le (rdTruth_le (rdByte_le hr.le))))))))).other (by omega) hid
 rintro F H' ⟨g0, g2, g3, hg, b2, b3, hn⟩
 refine T_mid (fun F H' => F 0 = .ptr id 1 0 0 ∧ F 2 = .ptr H.next 1 0 0 ∧ F 3 = .ptr (H.next + 1) 1 0 0 ∧ Rdg H H' id bs c (rdText bs (rdByte bs (rdTruth bs (rdVal bs (rdNum bs (rdNum bs (rdNum bs (rdTruth bs (rdByte bs s).2).2).2).2).2).2).2).2).2 ∧ H'.box H.next = some [[.val (.int .u8 0), .val (.bool false), pi 0, pi 0, pi 0, .val (.int .u8 0), .val (.int .u64 0), .val (.string ⟨#[]⟩), .val (.bool false), pi 0, .val (.string ⟨#[]⟩)]] ∧ H'.box (H.next + 1) = some [(rdCell bs s).1.row] ∧ H'.next = H.next + 2) ?_ ?_
 refine T_rg ?_
 simp [aFieldAddr, astore, splice, frame0, hx0, hx1, hy0, hy1, g0, g2, g3, hn, b2, b3, rdCell, DCell.row]
 refine callK.of (textIs _ id bs c _ hg.ok) ?_
 rintro _ H2 ⟨rfl, rfl⟩
 simp [aFieldAddr, astore, splice, frame0, hx0, hx1, hy0, hy1, g0, g2, g3, hn, b2, b3, rdCell, DCell.row]
 exact (hg.step (rdText_le (rdByte_le (rdTruth_le (rdVal_le (rdNum_le (rdNum_le (rdNum_le (rdTruth_le (rdByte_le hr.le)))))))))).other (by omega) hid
 rintro F H' ⟨g0, g2, g3, hg, b2, b3, hn⟩
 refine T_sr fun K0 hK0 => ?_
 simp [aload, partOf, astore, splice, frame0, hx0, hx1, hy0, hy1, g0, g2, g3, b2, b3, DCell.row]
 apply hK0
 refine T_ret ?_
 try simp only [kr]
 refine owes_one_at (H1 := H.setBox id [rrow bs c (rdCell bs s).2]) (.inr rfl) (hr.wf hwf _) (by simp) (by rw [show Tryz.f23.results.toList = [.cell 2 44] from rfl]; simp [aResults, aload, partOf, g2]; rfl) rfl (hg.ext.setBox (Nat.le_refl _)) (by simp [DCell.row]) (by simp [DCell.row])
theorem opIs (H : AS) (id : Nat) (bs : List UInt8) (c : Nat) (s : RS) (hr : RdOk H id bs c s) : ACalls Tryz.prog 59 [.ptr id 1 0 0] H fun q H' => q = .agg (rdOp bs s).1.row ∧ H' = H.setBox id [rrow bs c (rdOp bs s).2] := by
 refine ACalls_intro Tryz.func59 rfl (by kernel_rfl) (by simp) fun hwf hbel => ?_
 have hid := hr.lt hwf
 have hx0 : ¬ H.next = id := by omega
 have hx1 : ¬ H.next + 1 = id := by omega
 have hy0 : ¬ id = H.next := by omega
 have hy1 : ¬ id = H.next + 1 := by omega
 have hx2 : ¬ H.next + 2 = id := by omega
 have hy2 : ¬ id = H.next + 2 := by omega
 refine T_mid (fun F H' => F 0 = .ptr id 1 0 0 ∧ F 2 = .ptr H.next 1 0 0 ∧ Rdg H H' id bs c s ∧ H'.box H.next = some [[pi 0, pi 0, pi 0, pi 0, pi 0, pi 0, pi 0, .val (.int .u8 0), .val (.int .u64 0), .val (.string ⟨#[]⟩)]] ∧ H'.next = H.next + 1) ?_ ?_
 refine T_rg ?_
 simp [aalloc, frame0, hx0, hx1, hx2, hy0, hy1, hy2]
 exact ((Rdg.start hr).other (Nat.le_refl _) hid).bump
 rintro F H' ⟨g0, g2, hg, b2, hn⟩
 refine T_mid (fun F H' => F 0 = .ptr id 1 0 0 ∧ F 2 = .ptr H.next 1 0 0 ∧ F 3 = .ptr (H.next + 1) 1 0 0 ∧ Rdg H H' id bs c s ∧ H'.box H.next = some [[pi 0, pi 0, pi 0, pi 0, pi 0, pi 0, pi 0, .val (.int .u8 0), .val (.int .u64 0), .val (.string ⟨#[]⟩)]] ∧ H'.box (H.next + 1) = some [[pi 0, pi 0, pi 0, pi 0, pi 0, pi 0, pi 0, .val (.int .u8 0), .val (.int .u64 0), .val (.string ⟨#[]⟩)]] ∧ H'.next = H.next + 2) ?_ ?_
 refine T_rg ?_
 simp [aalloc, frame0, hx0, hx1, hx2, hy0, hy1, hy2, g0, g2, hn, b2]
 exact (hg.other (by omega) hid).bump
 rintro F H' ⟨g0, g2, g3, hg, b2, b3, hn⟩
 refine T_seqk fun K0 hK0 => ?_
 refine T_sr fun K1 hK1 => ?_
 simp [aFieldAddr, abuildSlice, aLen, frame0, hx0, hx1, hx2, hy0, hy1, hy2, g0, g2, g3, hn, b2, b3, frzR_id]
 apply hK1
 refine T_block ?_
 refine T_loop (fun k F H' => ∃ i : Nat, k = 7 - i ∧ i ≤ 7 ∧ F 0 = .ptr id 1 0 0 ∧ F 2 = .ptr H.next 1 0 0 ∧ F 3 = .ptr (H.next + 1) 1 0 0 ∧ F 13 = .msl (H.next + 2) 7 1 ∧ F 14 = pi 7 ∧ F 15 = pi i ∧ Rdg H H' id bs c (rdNums bs i s).2 ∧ H'.box H.next = some [[pi 0, pi 0, pi 0, pi 0, pi 0, pi 0, pi 0, .val (.int .u8 0), .val (.int .u64 0), .val (.string ⟨#[]⟩)]] ∧ H'.box (H.next + 1) = some [prow [] 7 (rdNums bs i s).1 [.val (.int .u8 0), .val (.int .u64 0), .val (.string ⟨#[]⟩)]] ∧ H'.box (H.next + 2) = some (ptrs (H.next + 1) 0 7) ∧ H'.next = H.next + 3) (7) ?_ ?_
 refine ⟨0, ?_⟩
 simp [g0, g2, g3, b2, b3, hn, rdNums, prow, ptrs]
 exact (Rdg.other (j := H.next + 2) hg (by omega) hid).bump
 rintro k F H' ⟨i, rfl, hile, g0, g2, g3, g13, g14, g15, hg, b2, b3, b4, hn⟩
 refine T_sr fun K2 hK2 => ?_
 simp [aBin, aBinV, frame0, hx0, hx1, hx2, hy0, hy1, hy2, g0, g2, g3, g13, g14, g15]
 apply hK2
 refine T_seqk fun K3 hK3 => ?_
 refine T_cond (by first | rfl | exact g0 | exact g2 | exact g0 | exact g2 | exact g3 | exact g0 | exact g2 | exact g3 | exact g13 | exact g14 | exact g15) (fun c0 => ?_) (fun c0 => ?_)
 have hlt : i < 7 := by simp at c0; omega
 have hi9 : i ≤ 9 := by omega
 have hpl : (prow [] 7 (rdNums bs i s).1 [.val (.int .u8 0), .val (.int .u64 0), .val (.string ⟨#[]⟩)]).length = 10 := by rw [prow_length (by simp; omega)]; rfl
 refine T_skip ?_
 try simp only [kn]
 apply hK3
 refine T_seqk fun K4 hK4 => ?_
 refine T_block ?_
 refine T_sr fun K5 hK5 => ?_
 simp [aIndexAddr, aload, frame0, hx0, hx1, hx2, hy0, hy1, hy2, g0, g2, g3, g13, g14, g15, amsl hlt, b4, ptrs_get hlt, part_ptr]
 apply hK5
 refine T_rg ?_
 simp [astore, frame0, hx0, hx1, hx2, hy0, hy1, hy2, g0, g2, g3, g13, g14, g15, b2, b3, b4, hpl, hi9]
 refine callK.of (numIs _ id bs c _ hg.ok) ?_
 rintro _ H2 ⟨rfl, rfl⟩
 simp [astore, frame0, hx0, hx1, hx2, hy0, hy1, hy2, g0, g2, g3, g13, g14, g15, b2, b3, b4, hpl, hi9]
 apply hK4
 refine T_rg ?_
 simp [aBin, aBinV, frame0, hx0, hx1, hx2, hy0, hy1, hy2, g0, g2, g3, g13, g14, g15]
 refine ⟨7 - (i + 1), by omega, i + 1, rfl, by omega, by rw [wrap_i64 (by omega) (by omega)]; rfl, (hg.step (rdNums_le (n := i + 1) hr.le)).other (by omega) hid, b2, ?_, b4, hn⟩
 simpa [rdNums] using prow_step (pre := []) (n := 7) (i := i) (o := 0) (nums := (rdNums bs i s).1) (post := [.val (.int .u8 0), .val (.int .u64 0), .val (.string ⟨#[]⟩)]) (by simp) rfl hlt (rdNum bs (rdNums bs i s).2).1
 have hlt : i = 7 := by simp at c0; omega
 subst hlt
 rw [list7 (rdNums_length (bs := bs) (n := 7) (s := s))] at b3
 simp only [prow, List.map_cons, List.map_nil, List.nil_append, List.cons_append, List.length_cons, List.length_nil, Nat.reduceAdd, Nat.sub_self, List.replicate_zero] at b3
 refine T_exit ?_
 try simp only [ke, kn, if_true, if_false, Nat.reduceEqDiff, reduceIte]
 apply hK0
 refine T_sr fun K6 hK6 => ?_
 simp [aFieldAddr, astore, splice, frame0, hx0, hx1, hx2, hy0, hy1, hy2, g0, g2, g3, g13, g14, g15, hn, b2, b3, DVal.row]
 refine callK.of (valueIs _ id bs c _ hg.ok) ?_
 rintro _ H2 ⟨rfl, rfl⟩
 simp [aFieldAddr, astore, splice, frame0, hx0, hx1, hx2, hy0, hy1, hy2, g0, g2, g3, g13, g14, g15, hn, b2, b3, DVal.row]
 apply hK6
 refine T_sr fun K7 hK7 => ?_
 simp [aload, partOf, astore, splice, frame0, hx0, hx1, hx2, hy0, hy1, hy2, g0, g2, g3, g13, g14, g15, b2, b3]
 apply hK7
 refine T_ret ?_
 try simp only [kr]
 refine owes_one_at (H1 := H.setBox id [rrow bs c (rdOp bs s).2]) (.inr rfl) (hr.wf hwf _) (by simp) (by rw [show Tryz.f59.results.toList = [.cell 2 50] from rfl]; simp [aResults, aload, partOf, g2]; rfl) rfl (((hg.step (rdVal_le (rdNums_le hr.le))).other (by omega) hid).other (Nat.le_refl _) hid).ext (by simp [DOp.row]) (by simp [DOp.row])
def rdGo {α : Type} (rd : RS → α × RS) : Nat → List α → RS → List α × RS
 | 0, acc, s => (acc, s)
 | n + 1, acc, s => if (rd s).2.e = 0 then rdGo rd n (acc ++ [(rd s).1]) (rd s).2 else ([], (rd s).2)
def rdList {α : Type} (bs : List UInt8) (rd : List UInt8 → RS → α × RS) (s : RS) : List α × RS := rdGo (rd bs) (rdMany bs s).1 [] (rdMany bs s).2
theorem rdGo_le {α : Type} {bs : List UInt8} {rd : RS → α × RS} (hrd : ∀ s : RS, s.at' ≤ bs.length → (rd s).2.at' ≤ bs.length) : ∀ (n : Nat) (acc : List α) (s : RS), s.at' ≤ bs.length → (rdGo rd n acc s).2.at' ≤ bs.length
 | 0, acc, s, h => h
 | n + 1, acc, s, h => by
  unfold rdGo; split
  ·exact rdGo_le hrd n _ _ (hrd s h)
  ·exact hrd s h
theorem rdList_le {α : Type} {bs : List UInt8} {rd : List UInt8 → RS → α × RS} (hrd : ∀ s : RS, s.at' ≤ bs.length → (rd bs s).2.at' ≤ bs.length) {s : RS} (h : s.at' ≤ bs.length) : (rdList bs rd s).2.at' ≤ bs.length := rdGo_le hrd _ _ _ (rdMany_le h)
@[simp] theorem frozen_rowOp (x : DOp) : ∀ p ∈ x.row, Frozen p := by simp [DOp.row]
@[simp] theorem frozen_rowLoop (x : DLoop) : ∀ p ∈ x.row, Frozen p := by simp [DLoop.row]
@[simp] theorem frozen_rowCell (x : DCell) : ∀ p ∈ x.row, Frozen p := by simp [DCell.row]
@[simp] theorem frozen_rowFlat (c : Nat) (x : DFlat) : ∀ p ∈ x.row c, Frozen p := by simp [DFlat.row]
@[simp] theorem frozen_rowJob (c : Nat) (x : DJob) : ∀ p ∈ x.row c, Frozen p := by simp [DJob.row]
theorem below_rowOp (n : Nat) (x : DOp) : ∀ p ∈ x.row, Below n p := by simp [DOp.row]
theorem below_rowLoop (n : Nat) (x : DLoop) : ∀ p ∈ x.row, Below n p := by simp [DLoop.row]
theorem below_rowCell (n : Nat) (x : DCell) : ∀ p ∈ x.row, Below n p := by simp [DCell.row]
theorem below_rowFlat (n c : Nat) (x : DFlat) : ∀ p ∈ x.row c, Below n p := by simp [DFlat.row, DOp.row, DLoop.row]
theorem below_rowJob (n c : Nat) (x : DJob) : ∀ p ∈ x.row c, Below n p := by simp [DJob.row, irow]
theorem frz_Op (H : AS) (x : DOp) : frzR H [x.row] = ([x.row], H) := frzR_id (by simp [DOp.row])
theorem frz_Loop (H : AS) (x : DLoop) : frzR H [x.row] = ([x.row], H) := frzR_id (by simp [DLoop.row])
theorem frz_Cell (H : AS) (x : DCell) : frzR H [x.row] = ([x.row], H) := frzR_id (by simp [DCell.row])
theorem frz_Flat (H : AS) (c : Nat) (x : DFlat) : frzR H [x.row c] = ([x.row c], H) := frzR_id (by simp [DFlat.row])
theorem frz_Job (H : AS) (c : Nat) (x : DJob) : frzR H [x.row c] = ([x.row c], H) := frzR_id (by simp [DJob.row])
@[simp] theorem frozenL (x : Int) : ∀ p ∈ irow x, Frozen p := by simp [irow]
theorem below_irow (n : Nat) (x : Int) : ∀ p ∈ irow x, Below n p := by simp [irow]
theorem alloc_50 (H : AS) : aalloc Tryz.prog H 50 = some (.ptr H.next 1 0 0, (H.setBox H.next [[pi 0, pi 0, pi 0, pi 0, pi 0, pi 0, pi 0, .val (.int .u8 0), .val (.int .u64 0), .val (.string ⟨#[]⟩)]]).bump 1) := by simp [aalloc]
theorem alloc_52 (H : AS) : aalloc Tryz.prog H 52 = some (.ptr H.next 1 0 0, (H.setBox H.next [[pi 0, pi 0, pi 0]]).bump 1) := by simp [aalloc]
theorem alloc_44 (H : AS) : aalloc Tryz.prog H 44 = some (.ptr H.next 1 0 0, (H.setBox H.next [[.val (.int .u8 0), .val (.bool false), pi 0, pi 0, pi 0, .val (.int .u8 0), .val (.int .u64 0), .val (.string ⟨#[]⟩), .val (.bool false), pi 0, .val (.string ⟨#[]⟩)]]).bump 1) := by simp [aalloc]
theorem alloc_48 (H : AS) : aalloc Tryz.prog H 48 = some (.ptr H.next 1 0 0, (H.setBox H.next [[.val (.string ⟨#[]⟩), pi 0, pi 0, pi 0, pi 0, pi 0, .nil, .nil]]).bump 1) := by simp [aalloc]
theorem alloc_55 (H : AS) : aalloc Tryz.prog H 55 = some (.ptr H.next 1 0 0, (H.setBox H.next [[.val (.string ⟨#[]⟩), pi 0, pi 0, pi 0, .nil, .nil, pi 0]]).bump 1) := by simp [aalloc]
theorem opsIs (H : AS) (id : Nat) (bs : List UInt8) (c : Nat) (s : RS) (hr : RdOk H id bs c s) : ACalls Tryz.prog 58 [.ptr id 1 0 0, .bound 59 [.ptr id 1 0 0]] H fun q H' => q = PV.sl H.color 10 ((rdList bs rdOp s).1.map DOp.row) ∧ H' = H.setBox id [rrow bs c (rdList bs rdOp s).2] := by
 refine ACalls_intro Tryz.func58 rfl (by kernel_rfl) (by simp) fun hwf hbel => ?_
 have hid := hr.lt hwf
 have hle := hr.le
 have hsm := hr.small
 have hmm := rdMany_small (s := s) hle
 refine T_sr fun K0 hK0 => ?_
 simp [frame0]
 apply hK0
 refine T_sr fun K1 hK1 => ?_
 simp [frame0]
 apply hK1
 refine T_seqk fun K2 hK2 => ?_
 refine T_sr fun K3 hK3 => ?_
 simp [frame0]
 refine callK.of (manyIs _ id bs c s hr) ?_
 rintro _ Hz ⟨rfl, hz⟩
 subst Hz
 simp [frame0]
 apply hK3
 refine T_block ?_
 refine T_loop (fun k F H' => ∃ (i : Nat) (acc : List DOp) (s1 : RS), k = (rdMany bs s).1 - i ∧ i ≤ (rdMany bs s).1 ∧ F 0 = .ptr id 1 0 0 ∧ F 1 = .bound 59 [.ptr id 1 0 0] ∧ F 8 = pi (rdMany bs s).1 ∧ F 9 = pi i ∧ Rdg H H' id bs c s1 ∧ OutIs H.next H' (F 5) 10 (acc.map DOp.row) ∧ acc.length = i ∧ rdGo (rdOp bs) (rdMany bs s).1 [] (rdMany bs s).2 = rdGo (rdOp bs) ((rdMany bs s).1 - i) acc s1) ((rdMany bs s).1) ?_ ?_
 refine ⟨0, [], (rdMany bs s).2, ?_⟩
 simp [frame0]
 exact ⟨(Rdg.start hr).step (rdMany_le hle), .nil⟩
 rintro k F H1 ⟨i, acc, s1, rfl, hile, g0, g1, g8, g9, hg, hout, hal, hgo⟩
 refine T_sr fun K4 hK4 => ?_
 simp [aBin, aBinV, frame0, g0, g1, g8, g9]
 apply hK4
 refine T_seqk fun K5 hK5 => ?_
 refine T_cond (by first | rfl | exact g0 | exact g1 | exact g8 | exact g9) (fun c0 => ?_) (fun c0 => ?_)
 have hlt : i < (rdMany bs s).1 := by simp at c0; omega
 refine T_skip ?_
 try simp only [kn]
 apply hK5
 refine T_seqk fun K6 hK6 => ?_
 refine T_block ?_
 refine T_mid (fun F H' => F 0 = .ptr id 1 0 0 ∧ F 1 = .bound 59 [.ptr id 1 0 0] ∧ F 8 = pi (rdMany bs s).1 ∧ F 9 = pi i ∧ F 6 = .ptr H1.next 1 0 0 ∧ Rdg H H' id bs c (rdOp bs s1).2 ∧ H'.box H1.next = some [DOp.row (rdOp bs s1).1] ∧ OutIs H.next H' (F 5) 10 (acc.map DOp.row) ∧ H1.next < H'.next) ?_ ?_
 refine T_rg ?_
 simp [astore, frame0, g0, g1, g8, g9, splice_op, alloc_50]
 refine callK.of (opIs _ id bs c _ hg.ok) ?_
 rintro _ H2 ⟨rfl, rfl⟩
 simp [astore, frame0, g0, g1, g8, g9, splice_op, alloc_50]
 have hn1 : H.next ≤ H1.next := by have := hg.ext.next; simpa using this
 exact ⟨(((hg.step (rdOp_le hg.ok.le)).other hn1 hid).bump).other hn1 hid, hout.keep (by simp) (fun j hj hl => by simp [show j ≠ id by omega, show j ≠ H1.next by omega])⟩
 rintro F H' ⟨g0, g1, g8, g9, g6, hg, b6, hout, hlt1⟩
 refine T_seqk fun K7 hK7 => ?_
 refine T_sr fun K8 hK8 => ?_
 simp [aFieldAddr, aload, partOf, aBin, aBinV, frame0, g0, g1, g8, g9, g6, hg.ok.box, rrow, int_bne]
 apply hK8
 refine T_cond (by first | rfl | exact g0 | exact g1 | exact g8 | exact g9 | exact g0 | exact g1 | exact g8 | exact g9 | exact g6) (fun c1 => ?_) (fun c1 => ?_)
 have he : ¬ (rdOp bs s1).2.e = 0 := by simpa using c1
 refine T_sr fun K9 hK9 => ?_
 simp [frame0, g0, g1, g8, g9, g6]
 apply hK9
 refine T_ret ?_
 try simp only [kr]
 have e : rdList bs rdOp s = ([], (rdOp bs s1).2) := by
   unfold rdList; rw [hgo, show (rdMany bs s).1 - i = ((rdMany bs s).1 - (i + 1)) + 1 by omega, rdGo, if_neg he]
 rw [e]
 refine owes_out_at (H1 := H.setBox id [rrow bs c ([], (rdOp bs s1).2).2]) (lo := H.next) (rows := []) (.inr rfl) (hr.wf hwf _) (by simp) rfl (.nil) (by simp) hg.ext ?_
 simp
 have he : (rdOp bs s1).2.e = 0 := by simpa using c1
 refine T_skip ?_
 try simp only [kn]
 apply hK7
 refine T_rg ?_
 simp [aload, abuildSlice, frame0, g0, g1, g8, g9, g6, b6, part_op, frz_Op]
 refine appendK.of (aappend_outT (lo := H.next) (rows := acc.map DOp.row) (ys := [DOp.row (rdOp bs s1).1]) ?_ ?_ rfl rfl Tryz.sz50 Tryz.zero50 Tryz.by50 rfl rfl (by decide) ?_ (by intro r hr p hp; rw [List.mem_singleton] at hr; subst hr; exact frozen_rowOp _ p hp) ?_ ?_)
 exact hout.keep (by simp) (fun j _ hj => by simp [Nat.ne_of_lt hj])
 have := hg.ext.next; simp at this ⊢; omega
 simp [srcOf]
 simp; omega
 intro p2 H3 hout2 hab hel
 have hext3 : (H.setBox id [rrow bs c (rdOp bs s1).2]).Ext H3 := hab _ (by simp) (.bump (.setBox (by have := hg.ext.next; simp at this ⊢; omega) hg.ext))
 have hg3 : Rdg H H3 id bs c (rdOp bs s1).2 := ⟨⟨by rw [hext3.box id (by simpa using hid)]; simp, hg.ok.le, hg.ok.small⟩, hext3⟩
 simp [aload, abuildSlice, frame0, g0, g1, g8, g9, g6, b6, part_op, frz_Op]
 apply hK6
 refine T_rg ?_
 simp [aBin, aBinV, frame0, g0, g1, g8, g9, g6]
 refine ⟨(rdMany bs s).1 - (i + 1), by omega, i + 1, rfl, by omega, by rw [wrap_i64 (by omega) (by omega)]; rfl, acc ++ [(rdOp bs s1).1], (rdOp bs s1).2, hg3, by simpa using hout2, by simp [hal], ?_⟩
 rw [hgo, show (rdMany bs s).1 - i = ((rdMany bs s).1 - (i + 1)) + 1 by omega, rdGo, if_pos he]
 have hge : i = (rdMany bs s).1 := by simp at c0; omega
 subst hge
 refine T_exit ?_
 try simp only [ke, kn, if_true, if_false, Nat.reduceEqDiff, reduceIte]
 apply hK2
 refine T_sr fun K10 hK10 => ?_
 simp [frame0, g0, g1, g8, g9]
 apply hK10
 refine T_ret ?_
 try simp only [kr]
 have e : rdList bs rdOp s = (acc, s1) := by
   unfold rdList; rw [hgo, Nat.sub_self]; rfl
 rw [e]
 refine owes_out_at (H1 := H.setBox id [rrow bs c (acc, s1).2]) (lo := H.next) (rows := acc.map DOp.row) (.inr rfl) (hr.wf hwf _) (by simp) rfl (hout) (by simp) hg.ext ?_
 intro r hr p hp
 obtain ⟨x, _, rfl⟩ := List.mem_map.1 hr
 exact below_rowOp _ x p hp
theorem loopsIs (H : AS) (id : Nat) (bs : List UInt8) (c : Nat) (s : RS) (hr : RdOk H id bs c s) : ACalls Tryz.prog 60 [.ptr id 1 0 0, .bound 61 [.ptr id 1 0 0]] H fun q H' => q = PV.sl H.color 3 ((rdList bs rdLoop s).1.map DLoop.row) ∧ H' = H.setBox id [rrow bs c (rdList bs rdLoop s).2] := by
 refine ACalls_intro Tryz.func60 rfl (by kernel_rfl) (by simp) fun hwf hbel => ?_
 have hid := hr.lt hwf
 have hle := hr.le
 have hsm := hr.small
 have hmm := rdMany_small (s := s) hle
 refine T_sr fun K0 hK0 => ?_
 simp [frame0]
 apply hK0
 refine T_sr fun K1 hK1 => ?_
 simp [frame0]
 apply hK1
 refine T_seqk fun K2 hK2 => ?_
 refine T_sr fun K3 hK3 => ?_
 simp [frame0]
 refine callK.of (manyIs _ id bs c s hr) ?_
 rintro _ Hz ⟨rfl, hz⟩
 subst Hz
 simp [frame0]
 apply hK3
 refine T_block ?_
 refine T_loop (fun k F H' => ∃ (i : Nat) (acc : List DLoop) (s1 : RS), k = (rdMany bs s).1 - i ∧ i ≤ (rdMany bs s).1 ∧ F 0 = .ptr id 1 0 0 ∧ F 1 = .bound 61 [.ptr id 1 0 0] ∧ F 8 = pi (rdMany bs s).1 ∧ F 9 = pi i ∧ Rdg H H' id bs c s1 ∧ OutIs H.next H' (F 5) 3 (acc.map DLoop.row) ∧ acc.length = i ∧ rdGo (rdLoop bs) (rdMany bs s).1 [] (rdMany bs s).2 = rdGo (rdLoop bs) ((rdMany bs s).1 - i) acc s1) ((rdMany bs s).1) ?_ ?_
 refine ⟨0, [], (rdMany bs s).2, ?_⟩
 simp [frame0]
 exact ⟨(Rdg.start hr).step (rdMany_le hle), .nil⟩
 rintro k F H1 ⟨i, acc, s1, rfl, hile, g0, g1, g8, g9, hg, hout, hal, hgo⟩
 refine T_sr fun K4 hK4 => ?_
 simp [aBin, aBinV, frame0, g0, g1, g8, g9]
 apply hK4
 refine T_seqk fun K5 hK5 => ?_
 refine T_cond (by first | rfl | exact g0 | exact g1 | exact g8 | exact g9) (fun c0 => ?_) (fun c0 => ?_)
 have hlt : i < (rdMany bs s).1 := by simp at c0; omega
 refine T_skip ?_
 try simp only [kn]
 apply hK5
 refine T_seqk fun K6 hK6 => ?_
 refine T_block ?_
 refine T_mid (fun F H' => F 0 = .ptr id 1 0 0 ∧ F 1 = .bound 61 [.ptr id 1 0 0] ∧ F 8 = pi (rdMany bs s).1 ∧ F 9 = pi i ∧ F 6 = .ptr H1.next 1 0 0 ∧ Rdg H H' id bs c (rdLoop bs s1).2 ∧ H'.box H1.next = some [DLoop.row (rdLoop bs s1).1] ∧ OutIs H.next H' (F 5) 3 (acc.map DLoop.row) ∧ H1.next < H'.next) ?_ ?_
 refine T_rg ?_
 simp [astore, frame0, g0, g1, g8, g9, splice_loop, alloc_52]
 refine callK.of (loopIs _ id bs c _ hg.ok) ?_
 rintro _ H2 ⟨rfl, rfl⟩
 simp [astore, frame0, g0, g1, g8, g9, splice_loop, alloc_52]
 have hn1 : H.next ≤ H1.next := by have := hg.ext.next; simpa using this
 exact ⟨(((hg.step (rdLoop_le hg.ok.le)).other hn1 hid).bump).other hn1 hid, hout.keep (by simp) (fun j hj hl => by simp [show j ≠ id by omega, show j ≠ H1.next by omega])⟩
 rintro F H' ⟨g0, g1, g8, g9, g6, hg, b6, hout, hlt1⟩
 refine T_seqk fun K7 hK7 => ?_
 refine T_sr fun K8 hK8 => ?_
 simp [aFieldAddr, aload, partOf, aBin, aBinV, frame0, g0, g1, g8, g9, g6, hg.ok.box, rrow, int_bne]
 apply hK8
 refine T_cond (by first | rfl | exact g0 | exact g1 | exact g8 | exact g9 | exact g0 | exact g1 | exact g8 | exact g9 | exact g6) (fun c1 => ?_) (fun c1 => ?_)
 have he : ¬ (rdLoop bs s1).2.e = 0 := by simpa using c1
 refine T_sr fun K9 hK9 => ?_
 simp [frame0, g0, g1, g8, g9, g6]
 apply hK9
 refine T_ret ?_
 try simp only [kr]
 have e : rdList bs rdLoop s = ([], (rdLoop bs s1).2) := by
   unfold rdList; rw [hgo, show (rdMany bs s).1 - i = ((rdMany bs s).1 - (i + 1)) + 1 by omega, rdGo, if_neg he]
 rw [e]
 refine owes_out_at (H1 := H.setBox id [rrow bs c ([], (rdLoop bs s1).2).2]) (lo := H.next) (rows := []) (.inr rfl) (hr.wf hwf _) (by simp) rfl (.nil) (by simp) hg.ext ?_
 simp
 have he : (rdLoop bs s1).2.e = 0 := by simpa using c1
 refine T_skip ?_
 try simp only [kn]
 apply hK7
 refine T_rg ?_
 simp [aload, abuildSlice, frame0, g0, g1, g8, g9, g6, b6, part_loop, frz_Loop]
 refine appendK.of (aappend_outT (lo := H.next) (rows := acc.map DLoop.row) (ys := [DLoop.row (rdLoop bs s1).1]) ?_ ?_ rfl rfl Tryz.sz52 Tryz.zero52 Tryz.by52 rfl rfl (by decide) ?_ (by intro r hr p hp; rw [List.mem_singleton] at hr; subst hr; exact frozen_rowLoop _ p hp) ?_ ?_)
 exact hout.keep (by simp) (fun j _ hj => by simp [Nat.ne_of_lt hj])
 have := hg.ext.next; simp at this ⊢; omega
 simp [srcOf]
 simp; omega
 intro p2 H3 hout2 hab hel
 have hext3 : (H.setBox id [rrow bs c (rdLoop bs s1).2]).Ext H3 := hab _ (by simp) (.bump (.setBox (by have := hg.ext.next; simp at this ⊢; omega) hg.ext))
 have hg3 : Rdg H H3 id bs c (rdLoop bs s1).2 := ⟨⟨by rw [hext3.box id (by simpa using hid)]; simp, hg.ok.le, hg.ok.small⟩, hext3⟩
 simp [aload, abuildSlice, frame0, g0, g1, g8, g9, g6, b6, part_loop, frz_Loop]
 apply hK6
 refine T_rg ?_
 simp [aBin, aBinV, frame0, g0, g1, g8, g9, g6]
 refine ⟨(rdMany bs s).1 - (i + 1), by omega, i + 1, rfl, by omega, by rw [wrap_i64 (by omega) (by omega)]; rfl, acc ++ [(rdLoop bs s1).1], (rdLoop bs s1).2, hg3, by simpa using hout2, by simp [hal], ?_⟩
 rw [hgo, show (rdMany bs s).1 - i = ((rdMany bs s).1 - (i + 1)) + 1 by omega, rdGo, if_pos he]
 have hge : i = (rdMany bs s).1 := by simp at c0; omega
 subst hge
 refine T_exit ?_
 try simp only [ke, kn, if_true, if_false, Nat.reduceEqDiff, reduceIte]
 apply hK2
 refine T_sr fun K10 hK10 => ?_
 simp [frame0, g0, g1, g8, g9]
 apply hK10
 refine T_ret ?_
 try simp only [kr]
 have e : rdList bs rdLoop s = (acc, s1) := by
   unfold rdList; rw [hgo, Nat.sub_self]; rfl
 rw [e]
 refine owes_out_at (H1 := H.setBox id [rrow bs c (acc, s1).2]) (lo := H.next) (rows := acc.map DLoop.row) (.inr rfl) (hr.wf hwf _) (by simp) rfl (hout) (by simp) hg.ext ?_
 intro r hr p hp
 obtain ⟨x, _, rfl⟩ := List.mem_map.1 hr
 exact below_rowLoop _ x p hp
theorem cellsIs (H : AS) (id : Nat) (bs : List UInt8) (c : Nat) (s : RS) (hr : RdOk H id bs c s) : ACalls Tryz.prog 22 [.ptr id 1 0 0, .bound 23 [.ptr id 1 0 0]] H fun q H' => q = PV.sl H.color 11 ((rdList bs rdCell s).1.map DCell.row) ∧ H' = H.setBox id [rrow bs c (rdList bs rdCell s).2] := by
 refine ACalls_intro Tryz.func22 rfl (by kernel_rfl) (by simp) fun hwf hbel => ?_
 have hid := hr.lt hwf
 have hle := hr.le
 have hsm := hr.small
 have hmm := rdMany_small (s := s) hle
 refine T_sr fun K0 hK0 => ?_
 simp [frame0]
 apply hK0
 refine T_sr fun K1 hK1 => ?_
 simp [frame0]
 apply hK1
 refine T_seqk fun K2 hK2 => ?_
 refine T_sr fun K3 hK3 => ?_
 simp [frame0]
 refine callK.of (manyIs _ id bs c s hr) ?_
 rintro _ Hz ⟨rfl, hz⟩
 subst Hz
 simp [frame0]
 apply hK3
 refine T_block ?_
 refine T_loop (fun k F H' => ∃ (i : Nat) (acc : List DCell) (s1 : RS), k = (rdMany bs s).1 - i ∧ i ≤ (rdMany bs s).1 ∧ F 0 = .ptr id 1 0 0 ∧ F 1 = .bound 23 [.ptr id 1 0 0] ∧ F 8 = pi (rdMany bs s).1 ∧ F 9 = pi i ∧ Rdg H H' id bs c s1 ∧ OutIs H.next H' (F 5) 11 (acc.map DCell.row) ∧ acc.length = i ∧ rdGo (rdCell bs) (rdMany bs s).1 [] (rdMany bs s).2 = rdGo (rdCell bs) ((rdMany bs s).1 - i) acc s1) ((rdMany bs s).1) ?_ ?_
 refine ⟨0, [], (rdMany bs s).2, ?_⟩
 simp [frame0]
 exact ⟨(Rdg.start hr).step (rdMany_le hle), .nil⟩
 rintro k F H1 ⟨i, acc, s1, rfl, hile, g0, g1, g8, g9, hg, hout, hal, hgo⟩
 refine T_sr fun K4 hK4 => ?_
 simp [aBin, aBinV, frame0, g0, g1, g8, g9]
 apply hK4
 refine T_seqk fun K5 hK5 => ?_
 refine T_cond (by first | rfl | exact g0 | exact g1 | exact g8 | exact g9) (fun c0 => ?_) (fun c0 => ?_)
 have hlt : i < (rdMany bs s).1 := by simp at c0; omega
 refine T_skip ?_
 try simp only [kn]
 apply hK5
 refine T_seqk fun K6 hK6 => ?_
 refine T_block ?_
 refine T_mid (fun F H' => F 0 = .ptr id 1 0 0 ∧ F 1 = .bound 23 [.ptr id 1 0 0] ∧ F 8 = pi (rdMany bs s).1 ∧ F 9 = pi i ∧ F 6 = .ptr H1.next 1 0 0 ∧ Rdg H H' id bs c (rdCell bs s1).2 ∧ H'.box H1.next = some [DCell.row (rdCell bs s1).1] ∧ OutIs H.next H' (F 5) 11 (acc.map DCell.row) ∧ H1.next < H'.next) ?_ ?_
 refine T_rg ?_
 simp [astore, frame0, g0, g1, g8, g9, splice_cell, alloc_44]
 refine callK.of (cellIs _ id bs c _ hg.ok) ?_
 rintro _ H2 ⟨rfl, rfl⟩
 simp [astore, frame0, g0, g1, g8, g9, splice_cell, alloc_44]
 have hn1 : H.next ≤ H1.next := by have := hg.ext.next; simpa using this
 exact ⟨(((hg.step (rdCell_le hg.ok.le)).other hn1 hid).bump).other hn1 hid, hout.keep (by simp) (fun j hj hl => by simp [show j ≠ id by omega, show j ≠ H1.next by omega])⟩
 rintro F H' ⟨g0, g1, g8, g9, g6, hg, b6, hout, hlt1⟩
 refine T_seqk fun K7 hK7 => ?_
 refine T_sr fun K8 hK8 => ?_
 simp [aFieldAddr, aload, partOf, aBin, aBinV, frame0, g0, g1, g8, g9, g6, hg.ok.box, rrow, int_bne]
 apply hK8
 refine T_cond (by first | rfl | exact g0 | exact g1 | exact g8 | exact g9 | exact g0 | exact g1 | exact g8 | exact g9 | exact g6) (fun c1 => ?_) (fun c1 => ?_)
 have he : ¬ (rdCell bs s1).2.e = 0 := by simpa using c1
 refine T_sr fun K9 hK9 => ?_
 simp [frame0, g0, g1, g8, g9, g6]
 apply hK9
 refine T_ret ?_
 try simp only [kr]
 have e : rdList bs rdCell s = ([], (rdCell bs s1).2) := by
   unfold rdList; rw [hgo, show (rdMany bs s).1 - i = ((rdMany bs s).1 - (i + 1)) + 1 by omega, rdGo, if_neg he]
 rw [e]
 refine owes_out_at (H1 := H.setBox id [rrow bs c ([], (rdCell bs s1).2).2]) (lo := H.next) (rows := []) (.inr rfl) (hr.wf hwf _) (by simp) rfl (.nil) (by simp) hg.ext ?_
 simp
 have he : (rdCell bs s1).2.e = 0 := by simpa using c1
 refine T_skip ?_
 try simp only [kn]
 apply hK7
 refine T_rg ?_
 simp [aload, abuildSlice, frame0, g0, g1, g8, g9, g6, b6, part_cell, frz_Cell]
 refine appendK.of (aappend_outT (lo := H.next) (rows := acc.map DCell.row) (ys := [DCell.row (rdCell bs s1).1]) ?_ ?_ rfl rfl Tryz.sz44 Tryz.zero44 Tryz.by44 rfl rfl (by decide) ?_ (by intro r hr p hp; rw [List.mem_singleton] at hr; subst hr; exact frozen_rowCell _ p hp) ?_ ?_)
 exact hout.keep (by simp) (fun j _ hj => by simp [Nat.ne_of_lt hj])
 have := hg.ext.next; simp at this ⊢; omega
 simp [srcOf]
 simp; omega
 intro p2 H3 hout2 hab hel
 have hext3 : (H.setBox id [rrow bs c (rdCell bs s1).2]).Ext H3 := hab _ (by simp) (.bump (.setBox (by have := hg.ext.next; simp at this ⊢; omega) hg.ext))
 have hg3 : Rdg H H3 id bs c (rdCell bs s1).2 := ⟨⟨by rw [hext3.box id (by simpa using hid)]; simp, hg.ok.le, hg.ok.small⟩, hext3⟩
 simp [aload, abuildSlice, frame0, g0, g1, g8, g9, g6, b6, part_cell, frz_Cell]
 apply hK6
 refine T_rg ?_
 simp [aBin, aBinV, frame0, g0, g1, g8, g9, g6]
 refine ⟨(rdMany bs s).1 - (i + 1), by omega, i + 1, rfl, by omega, by rw [wrap_i64 (by omega) (by omega)]; rfl, acc ++ [(rdCell bs s1).1], (rdCell bs s1).2, hg3, by simpa using hout2, by simp [hal], ?_⟩
 rw [hgo, show (rdMany bs s).1 - i = ((rdMany bs s).1 - (i + 1)) + 1 by omega, rdGo, if_pos he]
 have hge : i = (rdMany bs s).1 := by simp at c0; omega
 subst hge
 refine T_exit ?_
 try simp only [ke, kn, if_true, if_false, Nat.reduceEqDiff, reduceIte]
 apply hK2
 refine T_sr fun K10 hK10 => ?_
 simp [frame0, g0, g1, g8, g9]
 apply hK10
 refine T_ret ?_
 try simp only [kr]
 have e : rdList bs rdCell s = (acc, s1) := by
   unfold rdList; rw [hgo, Nat.sub_self]; rfl
 rw [e]
 refine owes_out_at (H1 := H.setBox id [rrow bs c (acc, s1).2]) (lo := H.next) (rows := acc.map DCell.row) (.inr rfl) (hr.wf hwf _) (by simp) rfl (hout) (by simp) hg.ext ?_
 intro r hr p hp
 obtain ⟨x, _, rfl⟩ := List.mem_map.1 hr
 exact below_rowCell _ x p hp
theorem intsIs (H : AS) (id : Nat) (bs : List UInt8) (c : Nat) (s : RS) (hr : RdOk H id bs c s) : ACalls Tryz.prog 62 [.ptr id 1 0 0, .bound 56 [.ptr id 1 0 0]] H fun q H' => q = PV.sl H.color 1 ((rdList bs rdNum s).1.map irow) ∧ H' = H.setBox id [rrow bs c (rdList bs rdNum s).2] := by
 refine ACalls_intro Tryz.func62 rfl (by kernel_rfl) (by simp) fun hwf hbel => ?_
 have hid := hr.lt hwf
 have hle := hr.le
 have hsm := hr.small
 have hmm := rdMany_small (s := s) hle
 refine T_sr fun K0 hK0 => ?_
 simp [frame0]
 apply hK0
 refine T_sr fun K1 hK1 => ?_
 simp [frame0]
 apply hK1
 refine T_seqk fun K2 hK2 => ?_
 refine T_sr fun K3 hK3 => ?_
 simp [frame0]
 refine callK.of (manyIs _ id bs c s hr) ?_
 rintro _ Hz ⟨rfl, hz⟩
 subst Hz
 simp [frame0]
 apply hK3
 refine T_block ?_
 refine T_loop (fun k F H' => ∃ (i : Nat) (acc : List Int) (s1 : RS), k = (rdMany bs s).1 - i ∧ i ≤ (rdMany bs s).1 ∧ F 0 = .ptr id 1 0 0 ∧ F 1 = .bound 56 [.ptr id 1 0 0] ∧ F 8 = pi (rdMany bs s).1 ∧ F 9 = pi i ∧ Rdg H H' id bs c s1 ∧ OutIs H.next H' (F 5) 1 (acc.map irow) ∧ acc.length = i ∧ rdGo (rdNum bs) (rdMany bs s).1 [] (rdMany bs s).2 = rdGo (rdNum bs) ((rdMany bs s).1 - i) acc s1) ((rdMany bs s).1) ?_ ?_
 refine ⟨0, [], (rdMany bs s).2, ?_⟩
 simp [frame0]
 exact ⟨(Rdg.start hr).step (rdMany_le hle), .nil⟩
 rintro k F H1 ⟨i, acc, s1, rfl, hile, g0, g1, g8, g9, hg, hout, hal, hgo⟩
 refine T_sr fun K4 hK4 => ?_
 simp [aBin, aBinV, frame0, g0, g1, g8, g9]
 apply hK4
 refine T_seqk fun K5 hK5 => ?_
 refine T_cond (by first | rfl | exact g0 | exact g1 | exact g8 | exact g9) (fun c0 => ?_) (fun c0 => ?_)
 have hlt : i < (rdMany bs s).1 := by simp at c0; omega
 refine T_skip ?_
 try simp only [kn]
 apply hK5
 refine T_seqk fun K6 hK6 => ?_
 refine T_block ?_
 refine T_mid (fun F H' => F 0 = .ptr id 1 0 0 ∧ F 1 = .bound 56 [.ptr id 1 0 0] ∧ F 8 = pi (rdMany bs s).1 ∧ F 9 = pi i ∧ F 6 = pi (rdNum bs s1).1 ∧ Rdg H H' id bs c (rdNum bs s1).2 ∧ OutIs H.next H' (F 5) 1 (acc.map irow)) ?_ ?_
 refine T_rg ?_
 simp [frame0, g0, g1, g8, g9]
 refine callK.of (numIs _ id bs c _ hg.ok) ?_
 rintro _ H2 ⟨rfl, rfl⟩
 simp [frame0, g0, g1, g8, g9]
 exact ⟨hg.step (rdNum_le hg.ok.le), hout.keep (by simp) (fun j hj hl => by simp [show j ≠ id by omega])⟩
 rintro F H' ⟨g0, g1, g8, g9, g6, hg, hout⟩
 refine T_seqk fun K7 hK7 => ?_
 refine T_sr fun K8 hK8 => ?_
 simp [aFieldAddr, aload, partOf, aBin, aBinV, frame0, g0, g1, g8, g9, g6, hg.ok.box, rrow, int_bne]
 apply hK8
 refine T_cond (by first | rfl | exact g0 | exact g1 | exact g8 | exact g9 | exact g0 | exact g1 | exact g8 | exact g9 | exact g6) (fun c1 => ?_) (fun c1 => ?_)
 have he : ¬ (rdNum bs s1).2.e = 0 := by simpa using c1
 refine T_sr fun K9 hK9 => ?_
 simp [frame0, g0, g1, g8, g9, g6]
 apply hK9
 refine T_ret ?_
 try simp only [kr]
 have e : rdList bs rdNum s = ([], (rdNum bs s1).2) := by
   unfold rdList; rw [hgo, show (rdMany bs s).1 - i = ((rdMany bs s).1 - (i + 1)) + 1 by omega, rdGo, if_neg he]
 rw [e]
 refine owes_out_at (H1 := H.setBox id [rrow bs c ([], (rdNum bs s1).2).2]) (lo := H.next) (rows := []) (.inr rfl) (hr.wf hwf _) (by simp) rfl (.nil) (by simp) hg.ext ?_
 simp
 have he : (rdNum bs s1).2.e = 0 := by simpa using c1
 refine T_skip ?_
 try simp only [kn]
 apply hK7
 refine T_rg ?_
 simp [abuildSlice, frame0, g0, g1, g8, g9, g6, frzR_id]
 refine appendK.of (aappend_outT (lo := H.next) (rows := acc.map irow) (ys := [irow (rdNum bs s1).1]) ?_ ?_ rfl rfl Tryz.sz3 Tryz.zero3 Tryz.by3 rfl rfl (by decide) ?_ (by intro r hr p hp; rw [List.mem_singleton] at hr; subst hr; exact frozenL _ p hp) ?_ ?_)
 exact hout.keep (by simp) (fun j _ hj => by simp [Nat.ne_of_lt hj])
 have := hg.ext.next; simp at this ⊢; omega
 simp [srcOf, irow]
 simp; omega
 intro p2 H3 hout2 hab hel
 have hext3 : (H.setBox id [rrow bs c (rdNum bs s1).2]).Ext H3 := hab _ (by simp) (.bump (.setBox (by have := hg.ext.next; simp at this ⊢; omega) hg.ext))
 have hg3 : Rdg H H3 id bs c (rdNum bs s1).2 := ⟨⟨by rw [hext3.box id (by simpa using hid)]; simp, hg.ok.le, hg.ok.small⟩, hext3⟩
 simp [abuildSlice, frame0, g0, g1, g8, g9, g6, frzR_id]
 apply hK6
 refine T_rg ?_
 simp [aBin, aBinV, frame0, g0, g1, g8, g9, g6]
 refine ⟨(rdMany bs s).1 - (i + 1), by omega, i + 1, rfl, by omega, by rw [wrap_i64 (by omega) (by omega)]; rfl, acc ++ [(rdNum bs s1).1], (rdNum bs s1).2, hg3, by simpa using hout2, by simp [hal], ?_⟩
 rw [hgo, show (rdMany bs s).1 - i = ((rdMany bs s).1 - (i + 1)) + 1 by omega, rdGo, if_pos he]
 have hge : i = (rdMany bs s).1 := by simp at c0; omega
 subst hge
 refine T_exit ?_
 try simp only [ke, kn, if_true, if_false, Nat.reduceEqDiff, reduceIte]
 apply hK2
 refine T_sr fun K10 hK10 => ?_
 simp [frame0, g0, g1, g8, g9]
 apply hK10
 refine T_ret ?_
 try simp only [kr]
 have e : rdList bs rdNum s = (acc, s1) := by
   unfold rdList; rw [hgo, Nat.sub_self]; rfl
 rw [e]
 refine owes_out_at (H1 := H.setBox id [rrow bs c (acc, s1).2]) (lo := H.next) (rows := acc.map irow) (.inr rfl) (hr.wf hwf _) (by simp) rfl (hout) (by simp) hg.ext ?_
 intro r hr p hp
 obtain ⟨x, _, rfl⟩ := List.mem_map.1 hr
 exact below_irow _ x p hp
@[simp] theorem range5 : List.range 5 = [0, 1, 2, 3, 4] := rfl
def rdFlat (bs : List UInt8) (s : RS) : DFlat × RS :=
 let a := rdText bs s
 let l := rdNums bs 5 a.2
 let o := rdList bs rdOp l.2
 let p := rdList bs rdLoop o.2
 ({ name := a.1, what := l.1.getD 0 0, cells := l.1.getD 1 0, base := l.1.getD 2 0, regs := l.1.getD 3 0, slots := l.1.getD 4 0, ops := o.1, loops := p.1 }, p.2)
theorem rdFlat_le {bs : List UInt8} {s : RS} (h : s.at' ≤ bs.length) : (rdFlat bs s).2.at' ≤ bs.length := rdList_le (fun _ => rdLoop_le) (rdList_le (fun _ => rdOp_le) (rdNums_le (rdText_le h)))
def rdJob (bs : List UInt8) (s : RS) : DJob × RS :=
 let a := rdText bs s
 let l := rdNums bs 3 a.2
 let o := rdList bs rdNum l.2
 let p := rdList bs rdNum o.2
 let b := rdNum bs p.2
 ({ name := a.1, interval := l.1.getD 0 0, single := l.1.getD 1 0, priority := l.1.getD 2 0, codes := o.1, bases := p.1, bound := b.1 }, b.2)
theorem rdJob_le {bs : List UInt8} {s : RS} (h : s.at' ≤ bs.length) : (rdJob bs s).2.at' ≤ bs.length := rdNum_le (rdList_le (fun _ => rdNum_le) (rdList_le (fun _ => rdNum_le) (rdNums_le (rdText_le h))))
theorem flatIs (H : AS) (id : Nat) (bs : List UInt8) (c : Nat) (s : RS) (hr : RdOk H id bs c s) : ACalls Tryz.prog 25 [.ptr id 1 0 0] H fun q H' => q = .agg ((rdFlat bs s).1.row H.color) ∧ H' = H.setBox id [rrow bs c (rdFlat bs s).2] := by
 refine ACalls_intro Tryz.func25 rfl (by kernel_rfl) (by simp) fun hwf hbel => ?_
 have hid := hr.lt hwf
 have hx0 : ¬ H.next = id := by omega
 have hx1 : ¬ H.next + 1 = id := by omega
 have hy0 : ¬ id = H.next := by omega
 have hy1 : ¬ id = H.next + 1 := by omega
 have hx2 : ¬ H.next + 2 = id := by omega
 have hy2 : ¬ id = H.next + 2 := by omega
 refine T_mid (fun F H' => F 0 = .ptr id 1 0 0 ∧ F 2 = .ptr H.next 1 0 0 ∧ Rdg H H' id bs c s ∧ H'.box H.next = some [[.val (.string ⟨#[]⟩), pi 0, pi 0, pi 0, pi 0, pi 0, .nil, .nil]] ∧ H'.next = H.next + 1) ?_ ?_
 refine T_rg ?_
 simp [aalloc, frame0, hx0, hx1, hx2, hy0, hy1, hy2]
 exact ((Rdg.start hr).other (Nat.le_refl _) hid).bump
 rintro F H' ⟨g0, g2, hg, b2, hn⟩
 refine T_mid (fun F H' => F 0 = .ptr id 1 0 0 ∧ F 2 = .ptr H.next 1 0 0 ∧ F 3 = .ptr (H.next + 1) 1 0 0 ∧ Rdg H H' id bs c (rdText bs s).2 ∧ H'.box H.next = some [[.val (.string ⟨#[]⟩), pi 0, pi 0, pi 0, pi 0, pi 0, .nil, .nil]] ∧ H'.box (H.next + 1) = some [[ps (rdText bs s).1, pi 0, pi 0, pi 0, pi 0, pi 0, .nil, .nil]] ∧ H'.next = H.next + 2) ?_ ?_
 refine T_rg ?_
 simp [aBuild, aBuild.go, splice, aalloc, astore, frame0, hx0, hx1, hx2, hy0, hy1, hy2, g0, g2, hn, b2]
 refine callK.of (textIs _ id bs c _ hg.ok) ?_
 rintro _ H2 ⟨rfl, rfl⟩
 simp [aBuild, aBuild.go, splice, aalloc, astore, frame0, hx0, hx1, hx2, hy0, hy1, hy2, g0, g2, hn, b2]
 exact ((((hg.step (rdText_le hr.le)).other (by omega) hid).bump).other (by omega) hid)
 rintro F H' ⟨g0, g2, g3, hg, b2, b3, hn⟩
 refine T_seqk fun K0 hK0 => ?_
 refine T_sr fun K1 hK1 => ?_
 simp [aFieldAddr, abuildSlice, aLen, frame0, hx0, hx1, hx2, hy0, hy1, hy2, g0, g2, g3, hn, b2, b3, frzR_id]
 apply hK1
 refine T_block ?_
 refine T_loop (fun k F H' => ∃ i : Nat, k = 5 - i ∧ i ≤ 5 ∧ F 0 = .ptr id 1 0 0 ∧ F 2 = .ptr H.next 1 0 0 ∧ F 3 = .ptr (H.next + 1) 1 0 0 ∧ F 14 = .msl (H.next + 2) 5 1 ∧ F 15 = pi 5 ∧ F 16 = pi i ∧ Rdg H H' id bs c (rdNums bs i (rdText bs s).2).2 ∧ H'.box H.next = some [[.val (.string ⟨#[]⟩), pi 0, pi 0, pi 0, pi 0, pi 0, .nil, .nil]] ∧ H'.box (H.next + 1) = some [prow [ps (rdText bs s).1] 5 (rdNums bs i (rdText bs s).2).1 [.nil, .nil]] ∧ H'.box (H.next + 2) = some (ptrs (H.next + 1) 1 5) ∧ H'.next = H.next + 3) (5) ?_ ?_
 refine ⟨0, ?_⟩
 simp [g0, g2, g3, b2, b3, hn, rdNums, prow, ptrs]
 exact (Rdg.other (j := H.next + 2) hg (by omega) hid).bump
 rintro k F H' ⟨i, rfl, hile, g0, g2, g3, g14, g15, g16, hg, b2, b3, b4, hn⟩
 refine T_sr fun K2 hK2 => ?_
 simp [aBin, aBinV, frame0, hx0, hx1, hx2, hy0, hy1, hy2, g0, g2, g3, g14, g15, g16]
 apply hK2
 refine T_seqk fun K3 hK3 => ?_
 refine T_cond (by first | rfl | exact g0 | exact g2 | exact g0 | exact g2 | exact g3 | exact g0 | exact g2 | exact g3 | exact g14 | exact g15 | exact g16) (fun c0 => ?_) (fun c0 => ?_)
 have hlt : i < 5 := by simp at c0; omega
 have hi9 : i ≤ 6 := by omega
 have hpl : (prow [ps (rdText bs s).1] 5 (rdNums bs i (rdText bs s).2).1 [.nil, .nil]).length = 8 := by rw [prow_length (by simp; omega)]; rfl
 refine T_skip ?_
 try simp only [kn]
 apply hK3
 refine T_seqk fun K4 hK4 => ?_
 refine T_block ?_
 refine T_sr fun K5 hK5 => ?_
 simp [aIndexAddr, aload, frame0, hx0, hx1, hx2, hy0, hy1, hy2, g0, g2, g3, g14, g15, g16, amsl hlt, b4, ptrs_get hlt, part_ptr]
 apply hK5
 refine T_rg ?_
 simp [astore, frame0, hx0, hx1, hx2, hy0, hy1, hy2, g0, g2, g3, g14, g15, g16, b2, b3, b4, hpl, hi9, Nat.add_comm 1 i]
 refine callK.of (numIs _ id bs c _ hg.ok) ?_
 rintro _ H2 ⟨rfl, rfl⟩
 simp [astore, frame0, hx0, hx1, hx2, hy0, hy1, hy2, g0, g2, g3, g14, g15, g16, b2, b3, b4, hpl, hi9, Nat.add_comm 1 i]
 apply hK4
 refine T_rg ?_
 simp [aBin, aBinV, frame0, hx0, hx1, hx2, hy0, hy1, hy2, g0, g2, g3, g14, g15, g16]
 refine ⟨5 - (i + 1), by omega, i + 1, rfl, by omega, by rw [wrap_i64 (by omega) (by omega)]; rfl, (hg.step (rdNums_le (n := i + 1) (rdText_le hr.le))).other (by omega) hid, b2, ?_, b4, hn⟩
 simpa [rdNums, Nat.add_comm] using prow_step (pre := [ps (rdText bs s).1]) (n := 5) (i := i) (o := 1) (nums := (rdNums bs i (rdText bs s).2).1) (post := [.nil, .nil]) (by simp) rfl hlt (rdNum bs (rdNums bs i (rdText bs s).2).2).1
 have hlt : i = 5 := by simp at c0; omega
 subst hlt
 have hcol : H'.color = H.color := hg.ext.color
 rw [list5 (rdNums_length (bs := bs) (n := 5) (s := (rdText bs s).2))] at b3
 simp only [prow, List.map_cons, List.map_nil, List.nil_append, List.cons_append, List.length_cons, List.length_nil, Nat.reduceAdd, Nat.sub_self, List.replicate_zero] at b3
 refine T_exit ?_
 try simp only [ke, kn, if_true, if_false, Nat.reduceEqDiff, reduceIte]
 apply hK0
 refine T_mid (fun F H' => F 0 = .ptr id 1 0 0 ∧ F 2 = .ptr H.next 1 0 0 ∧ F 3 = .ptr (H.next + 1) 1 0 0 ∧ Rdg H H' id bs c (rdList bs rdOp (rdNums bs 5 (rdText bs s).2).2).2 ∧ H'.box H.next = some [[.val (.string ⟨#[]⟩), pi 0, pi 0, pi 0, pi 0, pi 0, .nil, .nil]] ∧ H'.box (H.next + 1) = some [[ps (rdText bs s).1, pi ((rdNums bs 5 (rdText bs s).2).1.getD 0 0), pi ((rdNums bs 5 (rdText bs s).2).1.getD 1 0), pi ((rdNums bs 5 (rdText bs s).2).1.getD 2 0), pi ((rdNums bs 5 (rdText bs s).2).1.getD 3 0), pi ((rdNums bs 5 (rdText bs s).2).1.getD 4 0), PV.sl H.color 10 ((rdList bs rdOp (rdNums bs 5 (rdText bs s).2).2).1.map DOp.row), .nil]] ∧ H'.next = H.next + 3 ∧ H'.color = H.color) ?_ ?_
 refine T_rg ?_
 simp [aFieldAddr, astore, splice, frame0, hx0, hx1, hx2, hy0, hy1, hy2, g0, g2, g3, g14, g15, g16, hn, b2, b3, hcol]
 refine callK.of (opsIs _ id bs c _ hg.ok) ?_
 rintro _ H2 ⟨rfl, rfl⟩
 simp [aFieldAddr, astore, splice, frame0, hx0, hx1, hx2, hy0, hy1, hy2, g0, g2, g3, g14, g15, g16, hn, b2, b3, hcol]
 exact (hg.step (rdList_le (fun _ => rdOp_le) (rdNums_le (rdText_le hr.le)))).other (by omega) hid
 rintro F H' ⟨g0, g2, g3, hg, b2, b3, hn, hcol⟩
 refine T_mid (fun F H' => F 0 = .ptr id 1 0 0 ∧ F 2 = .ptr H.next 1 0 0 ∧ F 3 = .ptr (H.next + 1) 1 0 0 ∧ Rdg H H' id bs c (rdList bs rdLoop (rdList bs rdOp (rdNums bs 5 (rdText bs s).2).2).2).2 ∧ H'.box H.next = some [[.val (.string ⟨#[]⟩), pi 0, pi 0, pi 0, pi 0, pi 0, .nil, .nil]] ∧ H'.box (H.next + 1) = some [[ps (rdText bs s).1, pi ((rdNums bs 5 (rdText bs s).2).1.getD 0 0), pi ((rdNums bs 5 (rdText bs s).2).1.getD 1 0), pi ((rdNums bs 5 (rdText bs s).2).1.getD 2 0), pi ((rdNums bs 5 (rdText bs s).2).1.getD 3 0), pi ((rdNums bs 5 (rdText bs s).2).1.getD 4 0), PV.sl H.color 10 ((rdList bs rdOp (rdNums bs 5 (rdText bs s).2).2).1.map DOp.row), PV.sl H.color 3 ((rdList bs rdLoop (rdList bs rdOp (rdNums bs 5 (rdText bs s).2).2).2).1.map DLoop.row)]] ∧ H'.next = H.next + 3 ∧ H'.color = H.color) ?_ ?_
 refine T_rg ?_
 simp [aFieldAddr, astore, splice, frame0, hx0, hx1, hx2, hy0, hy1, hy2, g0, g2, g3, g14, g15, g16, hn, b2, b3, hcol]
 refine callK.of (loopsIs _ id bs c _ hg.ok) ?_
 rintro _ H2 ⟨rfl, rfl⟩
 simp [aFieldAddr, astore, splice, frame0, hx0, hx1, hx2, hy0, hy1, hy2, g0, g2, g3, g14, g15, g16, hn, b2, b3, hcol]
 exact (hg.step (rdList_le (fun _ => rdLoop_le) (rdList_le (fun _ => rdOp_le) (rdNums_le (rdText_le hr.le))))).other (by omega) hid
 rintro F H' ⟨g0, g2, g3, hg, b2, b3, hn, hcol⟩
 refine T_sr fun K6 hK6 => ?_
 simp [aload, partOf, astore, splice, frame0, hx0, hx1, hx2, hy0, hy1, hy2, g0, g2, g3, g14, g15, g16, b2, b3]
 apply hK6
 refine T_ret ?_
 try simp only [kr]
 refine owes_one_at (H1 := H.setBox id [rrow bs c (rdFlat bs s).2]) (.inr rfl) (hr.wf hwf _) (by simp) (by rw [show Tryz.f25.results.toList = [.cell 2 48] from rfl]; simp [aResults, aload, partOf, g2]; rfl) rfl (hg.ext.setBox (Nat.le_refl _)) (by simp [DFlat.row]) ?_
 exact .agg (below_rowFlat _ _ (rdFlat bs s).1)
theorem jobIs (H : AS) (id : Nat) (bs : List UInt8) (c : Nat) (s : RS) (hr : RdOk H id bs c s) : ACalls Tryz.prog 27 [.ptr id 1 0 0] H fun q H' => q = .agg ((rdJob bs s).1.row H.color) ∧ H' = H.setBox id [rrow bs c (rdJob bs s).2] := by
 refine ACalls_intro Tryz.func27 rfl (by kernel_rfl) (by simp) fun hwf hbel => ?_
 have hid := hr.lt hwf
 have hx0 : ¬ H.next = id := by omega
 have hx1 : ¬ H.next + 1 = id := by omega
 have hy0 : ¬ id = H.next := by omega
 have hy1 : ¬ id = H.next + 1 := by omega
 have hx2 : ¬ H.next + 2 = id := by omega
 have hy2 : ¬ id = H.next + 2 := by omega
 refine T_mid (fun F H' => F 0 = .ptr id 1 0 0 ∧ F 2 = .ptr H.next 1 0 0 ∧ Rdg H H' id bs c s ∧ H'.box H.next = some [[.val (.string ⟨#[]⟩), pi 0, pi 0, pi 0, .nil, .nil, pi 0]] ∧ H'.next = H.next + 1) ?_ ?_
 refine T_rg ?_
 simp [aalloc, frame0, hx0, hx1, hx2, hy0, hy1, hy2]
 exact ((Rdg.start hr).other (Nat.le_refl _) hid).bump
 rintro F H' ⟨g0, g2, hg, b2, hn⟩
 refine T_mid (fun F H' => F 0 = .ptr id 1 0 0 ∧ F 2 = .ptr H.next 1 0 0 ∧ F 3 = .ptr (H.next + 1) 1 0 0 ∧ Rdg H H' id bs c (rdText bs s).2 ∧ H'.box H.next = some [[.val (.string ⟨#[]⟩), pi 0, pi 0, pi 0, .nil, .nil, pi 0]] ∧ H'.box (H.next + 1) = some [[ps (rdText bs s).1, pi 0, pi 0, pi 0, .nil, .nil, pi 0]] ∧ H'.next = H.next + 2) ?_ ?_
 refine T_rg ?_
 simp [aBuild, aBuild.go, splice, aalloc, astore, frame0, hx0, hx1, hx2, hy0, hy1, hy2, g0, g2, hn, b2]
 refine callK.of (textIs _ id bs c _ hg.ok) ?_
 rintro _ H2 ⟨rfl, rfl⟩
 simp [aBuild, aBuild.go, splice, aalloc, astore, frame0, hx0, hx1, hx2, hy0, hy1, hy2, g0, g2, hn, b2]
 exact ((((hg.step (rdText_le hr.le)).other (by omega) hid).bump).other (by omega) hid)
 rintro F H' ⟨g0, g2, g3, hg, b2, b3, hn⟩
 refine T_seqk fun K0 hK0 => ?_
 refine T_sr fun K1 hK1 => ?_
 simp [aFieldAddr, abuildSlice, aLen, frame0, hx0, hx1, hx2, hy0, hy1, hy2, g0, g2, g3, hn, b2, b3, frzR_id]
 apply hK1
 refine T_block ?_
 refine T_loop (fun k F H' => ∃ i : Nat, k = 3 - i ∧ i ≤ 3 ∧ F 0 = .ptr id 1 0 0 ∧ F 2 = .ptr H.next 1 0 0 ∧ F 3 = .ptr (H.next + 1) 1 0 0 ∧ F 12 = .msl (H.next + 2) 3 1 ∧ F 13 = pi 3 ∧ F 14 = pi i ∧ Rdg H H' id bs c (rdNums bs i (rdText bs s).2).2 ∧ H'.box H.next = some [[.val (.string ⟨#[]⟩), pi 0, pi 0, pi 0, .nil, .nil, pi 0]] ∧ H'.box (H.next + 1) = some [prow [ps (rdText bs s).1] 3 (rdNums bs i (rdText bs s).2).1 [.nil, .nil, pi 0]] ∧ H'.box (H.next + 2) = some (ptrs (H.next + 1) 1 3) ∧ H'.next = H.next + 3) (3) ?_ ?_
 refine ⟨0, ?_⟩
 simp [g0, g2, g3, b2, b3, hn, rdNums, prow, ptrs]
 exact (Rdg.other (j := H.next + 2) hg (by omega) hid).bump
 rintro k F H' ⟨i, rfl, hile, g0, g2, g3, g12, g13, g14, hg, b2, b3, b4, hn⟩
 refine T_sr fun K2 hK2 => ?_
 simp [aBin, aBinV, frame0, hx0, hx1, hx2, hy0, hy1, hy2, g0, g2, g3, g12, g13, g14]
 apply hK2
 refine T_seqk fun K3 hK3 => ?_
 refine T_cond (by first | rfl | exact g0 | exact g2 | exact g0 | exact g2 | exact g3 | exact g0 | exact g2 | exact g3 | exact g12 | exact g13 | exact g14) (fun c0 => ?_) (fun c0 => ?_)
 have hlt : i < 3 := by simp at c0; omega
 have hi9 : i ≤ 5 := by omega
 have hpl : (prow [ps (rdText bs s).1] 3 (rdNums bs i (rdText bs s).2).1 [.nil, .nil, pi 0]).length = 7 := by rw [prow_length (by simp; omega)]; rfl
 refine T_skip ?_
 try simp only [kn]
 apply hK3
 refine T_seqk fun K4 hK4 => ?_
 refine T_block ?_
 refine T_sr fun K5 hK5 => ?_
 simp [aIndexAddr, aload, frame0, hx0, hx1, hx2, hy0, hy1, hy2, g0, g2, g3, g12, g13, g14, amsl hlt, b4, ptrs_get hlt, part_ptr]
 apply hK5
 refine T_rg ?_
 simp [astore, frame0, hx0, hx1, hx2, hy0, hy1, hy2, g0, g2, g3, g12, g13, g14, b2, b3, b4, hpl, hi9, Nat.add_comm 1 i]
 refine callK.of (numIs _ id bs c _ hg.ok) ?_
 rintro _ H2 ⟨rfl, rfl⟩
 simp [astore, frame0, hx0, hx1, hx2, hy0, hy1, hy2, g0, g2, g3, g12, g13, g14, b2, b3, b4, hpl, hi9, Nat.add_comm 1 i]
 apply hK4
 refine T_rg ?_
 simp [aBin, aBinV, frame0, hx0, hx1, hx2, hy0, hy1, hy2, g0, g2, g3, g12, g13, g14]
 refine ⟨3 - (i + 1), by omega, i + 1, rfl, by omega, by rw [wrap_i64 (by omega) (by omega)]; rfl, (hg.step (rdNums_le (n := i + 1) (rdText_le hr.le))).other (by omega) hid, b2, ?_, b4, hn⟩
 simpa [rdNums, Nat.add_comm] using prow_step (pre := [ps (rdText bs s).1]) (n := 3) (i := i) (o := 1) (nums := (rdNums bs i (rdText bs s).2).1) (post := [.nil, .nil, pi 0]) (by simp) rfl hlt (rdNum bs (rdNums bs i (rdText bs s).2).2).1
 have hlt : i = 3 := by simp at c0; omega
 subst hlt
 have hcol : H'.color = H.color := hg.ext.color
 rw [list3 (rdNums_length (bs := bs) (n := 3) (s := (rdText bs s).2))] at b3
 simp only [prow, List.map_cons, List.map_nil, List.nil_append, List.cons_append, List.length_cons, List.length_nil, Nat.reduceAdd, Nat.sub_self, List.replicate_zero] at b3
 refine T_exit ?_
 try simp only [ke, kn, if_true, if_false, Nat.reduceEqDiff, reduceIte]
 apply hK0
 refine T_mid (fun F H' => F 0 = .ptr id 1 0 0 ∧ F 2 = .ptr H.next 1 0 0 ∧ F 3 = .ptr (H.next + 1) 1 0 0 ∧ Rdg H H' id bs c (rdList bs rdNum (rdNums bs 3 (rdText bs s).2).2).2 ∧ H'.box H.next = some [[.val (.string ⟨#[]⟩), pi 0, pi 0, pi 0, .nil, .nil, pi 0]] ∧ H'.box (H.next + 1) = some [[ps (rdText bs s).1, pi ((rdNums bs 3 (rdText bs s).2).1.getD 0 0), pi ((rdNums bs 3 (rdText bs s).2).1.getD 1 0), pi ((rdNums bs 3 (rdText bs s).2).1.getD 2 0), PV.sl H.color 1 ((rdList bs rdNum (rdNums bs 3 (rdText bs s).2).2).1.map irow), .nil, pi 0]] ∧ H'.next = H.next + 3 ∧ H'.color = H.color) ?_ ?_
 refine T_rg ?_
 simp [aFieldAddr, astore, splice, frame0, hx0, hx1, hx2, hy0, hy1, hy2, g0, g2, g3, g12, g13, g14, hn, b2, b3, hcol]
 refine callK.of (intsIs _ id bs c _ hg.ok) ?_
 rintro _ H2 ⟨rfl, rfl⟩
 simp [aFieldAddr, astore, splice, frame0, hx0, hx1, hx2, hy0, hy1, hy2, g0, g2, g3, g12, g13, g14, hn, b2, b3, hcol]
 exact (hg.step (rdList_le (fun _ => rdNum_le) (rdNums_le (rdText_le hr.le)))).other (by omega) hid
 rintro F H' ⟨g0, g2, g3, hg, b2, b3, hn, hcol⟩
 refine T_mid (fun F H' => F 0 = .ptr id 1 0 0 ∧ F 2 = .ptr H.next 1 0 0 ∧ F 3 = .ptr (H.next + 1) 1 0 0 ∧ Rdg H H' id bs c (rdList bs rdNum (rdList bs rdNum (rdNums bs 3 (rdText bs s).2).2).2).2 ∧ H'.box H.next = some [[.val (.string ⟨#[]⟩), pi 0, pi 0, pi 0, .nil, .nil, pi 0]] ∧ H'.box (H.next + 1) = some [[ps (rdText bs s).1, pi ((rdNums bs 3 (rdText bs s).2).1.getD 0 0), pi ((rdNums bs 3 (rdText bs s).2).1.getD 1 0), pi ((rdNums bs 3 (rdText bs s).2).1.getD 2 0), PV.sl H.color 1 ((rdList bs rdNum (rdNums bs 3 (rdText bs s).2).2).1.map irow), PV.sl H.color 1 ((rdList bs rdNum (rdList bs rdNum (rdNums bs 3 (rdText bs s).2).2).2).1.map irow), pi 0]] ∧ H'.next = H.next + 3 ∧ H'.color = H.color) ?_ ?_
 refine T_rg ?_
 simp [aFieldAddr, astore, splice, frame0, hx0, hx1, hx2, hy0, hy1, hy2, g0, g2, g3, g12, g13, g14, hn, b2, b3, hcol]
 refine callK.of (intsIs _ id bs c _ hg.ok) ?_
 rintro _ H2 ⟨rfl, rfl⟩
 simp [aFieldAddr, astore, splice, frame0, hx0, hx1, hx2, hy0, hy1, hy2, g0, g2, g3, g12, g13, g14, hn, b2, b3, hcol]
 exact (hg.step (rdList_le (fun _ => rdNum_le) (rdList_le (fun _ => rdNum_le) (rdNums_le (rdText_le hr.le))))).other (by omega) hid
 rintro F H' ⟨g0, g2, g3, hg, b2, b3, hn, hcol⟩
 refine T_mid (fun F H' => F 0 = .ptr id 1 0 0 ∧ F 2 = .ptr H.next 1 0 0 ∧ F 3 = .ptr (H.next + 1) 1 0 0 ∧ Rdg H H' id bs c (rdNum bs (rdList bs rdNum (rdList bs rdNum (rdNums bs 3 (rdText bs s).2).2).2).2).2 ∧ H'.box H.next = some [[.val (.string ⟨#[]⟩), pi 0, pi 0, pi 0, .nil, .nil, pi 0]] ∧ H'.box (H.next + 1) = some [[ps (rdText bs s).1, pi ((rdNums bs 3 (rdText bs s).2).1.getD 0 0), pi ((rdNums bs 3 (rdText bs s).2).1.getD 1 0), pi ((rdNums bs 3 (rdText bs s).2).1.getD 2 0), PV.sl H.color 1 ((rdList bs rdNum (rdNums bs 3 (rdText bs s).2).2).1.map irow), PV.sl H.color 1 ((rdList bs rdNum (rdList bs rdNum (rdNums bs 3 (rdText bs s).2).2).2).1.map irow), pi (rdNum bs (rdList bs rdNum (rdList bs rdNum (rdNums bs 3 (rdText bs s).2).2).2).2).1]] ∧ H'.next = H.next + 3 ∧ H'.color = H.color) ?_ ?_
 refine T_rg ?_
 simp [aFieldAddr, astore, splice, frame0, hx0, hx1, hx2, hy0, hy1, hy2, g0, g2, g3, g12, g13, g14, hn, b2, b3, hcol]
 refine callK.of (numIs _ id bs c _ hg.ok) ?_
 rintro _ H2 ⟨rfl, rfl⟩
 simp [aFieldAddr, astore, splice, frame0, hx0, hx1, hx2, hy0, hy1, hy2, g0, g2, g3, g12, g13, g14, hn, b2, b3, hcol]
 exact (hg.step (rdNum_le (rdList_le (fun _ => rdNum_le) (rdList_le (fun _ => rdNum_le) (rdNums_le (rdText_le hr.le)))))).other (by omega) hid
 rintro F H' ⟨g0, g2, g3, hg, b2, b3, hn, hcol⟩
 refine T_sr fun K6 hK6 => ?_
 simp [aload, partOf, astore, splice, frame0, hx0, hx1, hx2, hy0, hy1, hy2, g0, g2, g3, g12, g13, g14, b2, b3]
 apply hK6
 refine T_ret ?_
 try simp only [kr]
 refine owes_one_at (H1 := H.setBox id [rrow bs c (rdJob bs s).2]) (.inr rfl) (hr.wf hwf _) (by simp) (by rw [show Tryz.f27.results.toList = [.cell 2 55] from rfl]; simp [aResults, aload, partOf, g2]; rfl) rfl (hg.ext.setBox (Nat.le_refl _)) (by simp [DJob.row]) ?_
 exact .agg (below_rowJob _ _ (rdJob bs s).1)
theorem flatsIs (H : AS) (id : Nat) (bs : List UInt8) (c : Nat) (s : RS) (hr : RdOk H id bs c s) : ACalls Tryz.prog 24 [.ptr id 1 0 0, .bound 25 [.ptr id 1 0 0]] H fun q H' => q = PV.sl H.color 8 ((rdList bs rdFlat s).1.map (DFlat.row H.color)) ∧ H' = H.setBox id [rrow bs c (rdList bs rdFlat s).2] := by
 refine ACalls_intro Tryz.func24 rfl (by kernel_rfl) (by simp) fun hwf hbel => ?_
 have hid := hr.lt hwf
 have hle := hr.le
 have hsm := hr.small
 have hmm := rdMany_small (s := s) hle
 refine T_sr fun K0 hK0 => ?_
 simp [frame0]
 apply hK0
 refine T_sr fun K1 hK1 => ?_
 simp [frame0]
 apply hK1
 refine T_seqk fun K2 hK2 => ?_
 refine T_sr fun K3 hK3 => ?_
 simp [frame0]
 refine callK.of (manyIs _ id bs c s hr) ?_
 rintro _ Hz ⟨rfl, hz⟩
 subst Hz
 simp [frame0]
 apply hK3
 refine T_block ?_
 refine T_loop (fun k F H' => ∃ (i : Nat) (acc : List DFlat) (s1 : RS), k = (rdMany bs s).1 - i ∧ i ≤ (rdMany bs s).1 ∧ F 0 = .ptr id 1 0 0 ∧ F 1 = .bound 25 [.ptr id 1 0 0] ∧ F 8 = pi (rdMany bs s).1 ∧ F 9 = pi i ∧ Rdg H H' id bs c s1 ∧ OutIs H.next H' (F 5) 8 (acc.map (DFlat.row H.color)) ∧ acc.length = i ∧ rdGo (rdFlat bs) (rdMany bs s).1 [] (rdMany bs s).2 = rdGo (rdFlat bs) ((rdMany bs s).1 - i) acc s1) ((rdMany bs s).1) ?_ ?_
 refine ⟨0, [], (rdMany bs s).2, ?_⟩
 simp [frame0]
 exact ⟨(Rdg.start hr).step (rdMany_le hle), .nil⟩
 rintro k F H1 ⟨i, acc, s1, rfl, hile, g0, g1, g8, g9, hg, hout, hal, hgo⟩
 refine T_sr fun K4 hK4 => ?_
 simp [aBin, aBinV, frame0, g0, g1, g8, g9]
 apply hK4
 refine T_seqk fun K5 hK5 => ?_
 refine T_cond (by first | rfl | exact g0 | exact g1 | exact g8 | exact g9) (fun c0 => ?_) (fun c0 => ?_)
 have hlt : i < (rdMany bs s).1 := by simp at c0; omega
 refine T_skip ?_
 try simp only [kn]
 apply hK5
 refine T_seqk fun K6 hK6 => ?_
 refine T_block ?_
 refine T_mid (fun F H' => F 0 = .ptr id 1 0 0 ∧ F 1 = .bound 25 [.ptr id 1 0 0] ∧ F 8 = pi (rdMany bs s).1 ∧ F 9 = pi i ∧ F 6 = .ptr H1.next 1 0 0 ∧ Rdg H H' id bs c (rdFlat bs s1).2 ∧ H'.box H1.next = some [(DFlat.row H.color) (rdFlat bs s1).1] ∧ OutIs H.next H' (F 5) 8 (acc.map (DFlat.row H.color)) ∧ H1.next < H'.next) ?_ ?_
 refine T_rg ?_
 have hcol1 : H1.color = H.color := hg.ext.color
 simp [astore, frame0, g0, g1, g8, g9, splice_flat, alloc_48, hcol1]
 refine callK.of (flatIs _ id bs c _ hg.ok) ?_
 rintro _ H2 ⟨rfl, rfl⟩
 simp [astore, frame0, g0, g1, g8, g9, splice_flat, alloc_48, hcol1]
 have hn1 : H.next ≤ H1.next := by have := hg.ext.next; simpa using this
 exact ⟨(((hg.step (rdFlat_le hg.ok.le)).other hn1 hid).bump).other hn1 hid, hout.keep (by simp) (fun j hj hl => by simp [show j ≠ id by omega, show j ≠ H1.next by omega])⟩
 rintro F H' ⟨g0, g1, g8, g9, g6, hg, b6, hout, hlt1⟩
 refine T_seqk fun K7 hK7 => ?_
 refine T_sr fun K8 hK8 => ?_
 simp [aFieldAddr, aload, partOf, aBin, aBinV, frame0, g0, g1, g8, g9, g6, hg.ok.box, rrow, int_bne]
 apply hK8
 refine T_cond (by first | rfl | exact g0 | exact g1 | exact g8 | exact g9 | exact g0 | exact g1 | exact g8 | exact g9 | exact g6) (fun c1 => ?_) (fun c1 => ?_)
 have he : ¬ (rdFlat bs s1).2.e = 0 := by simpa using c1
 refine T_sr fun K9 hK9 => ?_
 simp [frame0, g0, g1, g8, g9, g6]
 apply hK9
 refine T_ret ?_
 try simp only [kr]
 have e : rdList bs rdFlat s = ([], (rdFlat bs s1).2) := by
   unfold rdList; rw [hgo, show (rdMany bs s).1 - i = ((rdMany bs s).1 - (i + 1)) + 1 by omega, rdGo, if_neg he]
 rw [e]
 refine owes_out_at (H1 := H.setBox id [rrow bs c ([], (rdFlat bs s1).2).2]) (lo := H.next) (rows := []) (.inr rfl) (hr.wf hwf _) (by simp) rfl (.nil) (by simp) hg.ext ?_
 simp
 have he : (rdFlat bs s1).2.e = 0 := by simpa using c1
 refine T_skip ?_
 try simp only [kn]
 apply hK7
 refine T_rg ?_
 simp [aload, abuildSlice, frame0, g0, g1, g8, g9, g6, b6, part_flat, frz_Flat]
 refine appendK.of (aappend_outT (lo := H.next) (rows := acc.map (DFlat.row H.color)) (ys := [(DFlat.row H.color) (rdFlat bs s1).1]) ?_ ?_ rfl rfl Tryz.sz48 Tryz.zero48 Tryz.by48 rfl rfl (by decide) ?_ (by intro r hr p hp; rw [List.mem_singleton] at hr; subst hr; exact frozen_rowFlat _ _ p hp) ?_ ?_)
 exact hout.keep (by simp) (fun j _ hj => by simp [Nat.ne_of_lt hj])
 have := hg.ext.next; simp at this ⊢; omega
 simp [srcOf]
 simp; omega
 intro p2 H3 hout2 hab hel
 have hext3 : (H.setBox id [rrow bs c (rdFlat bs s1).2]).Ext H3 := hab _ (by simp) (.bump (.setBox (by have := hg.ext.next; simp at this ⊢; omega) hg.ext))
 have hg3 : Rdg H H3 id bs c (rdFlat bs s1).2 := ⟨⟨by rw [hext3.box id (by simpa using hid)]; simp, hg.ok.le, hg.ok.small⟩, hext3⟩
 simp [aload, abuildSlice, frame0, g0, g1, g8, g9, g6, b6, part_flat, frz_Flat]
 apply hK6
 refine T_rg ?_
 simp [aBin, aBinV, frame0, g0, g1, g8, g9, g6]
 refine ⟨(rdMany bs s).1 - (i + 1), by omega, i + 1, rfl, by omega, by rw [wrap_i64 (by omega) (by omega)]; rfl, acc ++ [(rdFlat bs s1).1], (rdFlat bs s1).2, hg3, by simpa using hout2, by simp [hal], ?_⟩
 rw [hgo, show (rdMany bs s).1 - i = ((rdMany bs s).1 - (i + 1)) + 1 by omega, rdGo, if_pos he]
 have hge : i = (rdMany bs s).1 := by simp at c0; omega
 subst hge
 refine T_exit ?_
 try simp only [ke, kn, if_true, if_false, Nat.reduceEqDiff, reduceIte]
 apply hK2
 refine T_sr fun K10 hK10 => ?_
 simp [frame0, g0, g1, g8, g9]
 apply hK10
 refine T_ret ?_
 try simp only [kr]
 have e : rdList bs rdFlat s = (acc, s1) := by
   unfold rdList; rw [hgo, Nat.sub_self]; rfl
 rw [e]
 refine owes_out_at (H1 := H.setBox id [rrow bs c (acc, s1).2]) (lo := H.next) (rows := acc.map (DFlat.row H.color)) (.inr rfl) (hr.wf hwf _) (by simp) rfl (hout) (by simp) hg.ext ?_
 intro r hr p hp
 obtain ⟨x, _, rfl⟩ := List.mem_map.1 hr
 exact below_rowFlat _ _ x p hp
theorem jobsIs (H : AS) (id : Nat) (bs : List UInt8) (c : Nat) (s : RS) (hr : RdOk H id bs c s) : ACalls Tryz.prog 26 [.ptr id 1 0 0, .bound 27 [.ptr id 1 0 0]] H fun q H' => q = PV.sl H.color 7 ((rdList bs rdJob s).1.map (DJob.row H.color)) ∧ H' = H.setBox id [rrow bs c (rdList bs rdJob s).2] := by
 refine ACalls_intro Tryz.func26 rfl (by kernel_rfl) (by simp) fun hwf hbel => ?_
 have hid := hr.lt hwf
 have hle := hr.le
 have hsm := hr.small
 have hmm := rdMany_small (s := s) hle
 refine T_sr fun K0 hK0 => ?_
 simp [frame0]
 apply hK0
 refine T_sr fun K1 hK1 => ?_
 simp [frame0]
 apply hK1
 refine T_seqk fun K2 hK2 => ?_
 refine T_sr fun K3 hK3 => ?_
 simp [frame0]
 refine callK.of (manyIs _ id bs c s hr) ?_
 rintro _ Hz ⟨rfl, hz⟩
 subst Hz
 simp [frame0]
 apply hK3
 refine T_block ?_
 refine T_loop (fun k F H' => ∃ (i : Nat) (acc : List DJob) (s1 : RS), k = (rdMany bs s).1 - i ∧ i ≤ (rdMany bs s).1 ∧ F 0 = .ptr id 1 0 0 ∧ F 1 = .bound 27 [.ptr id 1 0 0] ∧ F 8 = pi (rdMany bs s).1 ∧ F 9 = pi i ∧ Rdg H H' id bs c s1 ∧ OutIs H.next H' (F 5) 7 (acc.map (DJob.row H.color)) ∧ acc.length = i ∧ rdGo (rdJob bs) (rdMany bs s).1 [] (rdMany bs s).2 = rdGo (rdJob bs) ((rdMany bs s).1 - i) acc s1) ((rdMany bs s).1) ?_ ?_
 refine ⟨0, [], (rdMany bs s).2, ?_⟩
 simp [frame0]
 exact ⟨(Rdg.start hr).step (rdMany_le hle), .nil⟩
 rintro k F H1 ⟨i, acc, s1, rfl, hile, g0, g1, g8, g9, hg, hout, hal, hgo⟩
 refine T_sr fun K4 hK4 => ?_
 simp [aBin, aBinV, frame0, g0, g1, g8, g9]
 apply hK4
 refine T_seqk fun K5 hK5 => ?_
 refine T_cond (by first | rfl | exact g0 | exact g1 | exact g8 | exact g9) (fun c0 => ?_) (fun c0 => ?_)
 have hlt : i < (rdMany bs s).1 := by simp at c0; omega
 refine T_skip ?_
 try simp only [kn]
 apply hK5
 refine T_seqk fun K6 hK6 => ?_
 refine T_block ?_
 refine T_mid (fun F H' => F 0 = .ptr id 1 0 0 ∧ F 1 = .bound 27 [.ptr id 1 0 0] ∧ F 8 = pi (rdMany bs s).1 ∧ F 9 = pi i ∧ F 6 = .ptr H1.next 1 0 0 ∧ Rdg H H' id bs c (rdJob bs s1).2 ∧ H'.box H1.next = some [(DJob.row H.color) (rdJob bs s1).1] ∧ OutIs H.next H' (F 5) 7 (acc.map (DJob.row H.color)) ∧ H1.next < H'.next) ?_ ?_
 refine T_rg ?_
 have hcol1 : H1.color = H.color := hg.ext.color
 simp [astore, frame0, g0, g1, g8, g9, splice_job, alloc_55, hcol1]
 refine callK.of (jobIs _ id bs c _ hg.ok) ?_
 rintro _ H2 ⟨rfl, rfl⟩
 simp [astore, frame0, g0, g1, g8, g9, splice_job, alloc_55, hcol1]
 have hn1 : H.next ≤ H1.next := by have := hg.ext.next; simpa using this
 exact ⟨(((hg.step (rdJob_le hg.ok.le)).other hn1 hid).bump).other hn1 hid, hout.keep (by simp) (fun j hj hl => by simp [show j ≠ id by omega, show j ≠ H1.next by omega])⟩
 rintro F H' ⟨g0, g1, g8, g9, g6, hg, b6, hout, hlt1⟩
 refine T_seqk fun K7 hK7 => ?_
 refine T_sr fun K8 hK8 => ?_
 simp [aFieldAddr, aload, partOf, aBin, aBinV, frame0, g0, g1, g8, g9, g6, hg.ok.box, rrow, int_bne]
 apply hK8
 refine T_cond (by first | rfl | exact g0 | exact g1 | exact g8 | exact g9 | exact g0 | exact g1 | exact g8 | exact g9 | exact g6) (fun c1 => ?_) (fun c1 => ?_)
 have he : ¬ (rdJob bs s1).2.e = 0 := by simpa using c1
 refine T_sr fun K9 hK9 => ?_
 simp [frame0, g0, g1, g8, g9, g6]
 apply hK9
 refine T_ret ?_
 try simp only [kr]
 have e : rdList bs rdJob s = ([], (rdJob bs s1).2) := by
   unfold rdList; rw [hgo, show (rdMany bs s).1 - i = ((rdMany bs s).1 - (i + 1)) + 1 by omega, rdGo, if_neg he]
 rw [e]
 refine owes_out_at (H1 := H.setBox id [rrow bs c ([], (rdJob bs s1).2).2]) (lo := H.next) (rows := []) (.inr rfl) (hr.wf hwf _) (by simp) rfl (.nil) (by simp) hg.ext ?_
 simp
 have he : (rdJob bs s1).2.e = 0 := by simpa using c1
 refine T_skip ?_
 try simp only [kn]
 apply hK7
 refine T_rg ?_
 simp [aload, abuildSlice, frame0, g0, g1, g8, g9, g6, b6, part_job, frz_Job]
 refine appendK.of (aappend_outT (lo := H.next) (rows := acc.map (DJob.row H.color)) (ys := [(DJob.row H.color) (rdJob bs s1).1]) ?_ ?_ rfl rfl Tryz.sz55 Tryz.zero55 Tryz.by55 rfl rfl (by decide) ?_ (by intro r hr p hp; rw [List.mem_singleton] at hr; subst hr; exact frozen_rowJob _ _ p hp) ?_ ?_)
 exact hout.keep (by simp) (fun j _ hj => by simp [Nat.ne_of_lt hj])
 have := hg.ext.next; simp at this ⊢; omega
 simp [srcOf]
 simp; omega
 intro p2 H3 hout2 hab hel
 have hext3 : (H.setBox id [rrow bs c (rdJob bs s1).2]).Ext H3 := hab _ (by simp) (.bump (.setBox (by have := hg.ext.next; simp at this ⊢; omega) hg.ext))
 have hg3 : Rdg H H3 id bs c (rdJob bs s1).2 := ⟨⟨by rw [hext3.box id (by simpa using hid)]; simp, hg.ok.le, hg.ok.small⟩, hext3⟩
 simp [aload, abuildSlice, frame0, g0, g1, g8, g9, g6, b6, part_job, frz_Job]
 apply hK6
 refine T_rg ?_
 simp [aBin, aBinV, frame0, g0, g1, g8, g9, g6]
 refine ⟨(rdMany bs s).1 - (i + 1), by omega, i + 1, rfl, by omega, by rw [wrap_i64 (by omega) (by omega)]; rfl, acc ++ [(rdJob bs s1).1], (rdJob bs s1).2, hg3, by simpa using hout2, by simp [hal], ?_⟩
 rw [hgo, show (rdMany bs s).1 - i = ((rdMany bs s).1 - (i + 1)) + 1 by omega, rdGo, if_pos he]
 have hge : i = (rdMany bs s).1 := by simp at c0; omega
 subst hge
 refine T_exit ?_
 try simp only [ke, kn, if_true, if_false, Nat.reduceEqDiff, reduceIte]
 apply hK2
 refine T_sr fun K10 hK10 => ?_
 simp [frame0, g0, g1, g8, g9]
 apply hK10
 refine T_ret ?_
 try simp only [kr]
 have e : rdList bs rdJob s = (acc, s1) := by
   unfold rdList; rw [hgo, Nat.sub_self]; rfl
 rw [e]
 refine owes_out_at (H1 := H.setBox id [rrow bs c (acc, s1).2]) (lo := H.next) (rows := acc.map (DJob.row H.color)) (.inr rfl) (hr.wf hwf _) (by simp) rfl (hout) (by simp) hg.ext ?_
 intro r hr p hp
 obtain ⟨x, _, rfl⟩ := List.mem_map.1 hr
 exact below_rowJob _ _ x p hp
section
attribute [local simp ↓] wanted_at hbind_some
attribute [local simp] Gs_true Gs_false gcond_Gr Gr_true Gr_false abox frame0 int_beq int_bne aload astore partOf Keeps Same splice aUn aFieldAddr aField aBin aBinV aConvert aExtract aLen aBuild aBuild.go aalloc AS.Ext.refl AS.Ext.bump AS.Ext.setBox
def letterB (n : Int) : Bool := if 97 ≤ n then (if n ≤ 122 then true else if 65 ≤ n then (if n ≤ 90 then true else false) else false) else if 65 ≤ n then (if n ≤ 90 then true else false) else false
theorem letterIs (H : AS) (n : Int) : ACalls Tryz.prog 77 [.val (.int .u8 n)] H fun q H' => q = pb (letterB n) ∧ H' = H := by
 refine ACalls_intro Tryz.func77 rfl (by kernel_rfl) (by simp) fun hwf hbel => ?_
 repeat' first
  | refine T_seq ?_
  | refine T_rgn ?_
  | refine T_cd ?_
  | refine T_sk ?_
  | refine T_rt ?_
  | refine T_block ?_
  | refine T_ex ?_
  | refine Kt_then ?_
  | refine Kt_block ?_
  | refine Kr_then ?_
  | refine Kr_block ?_
  | refine Ke_here ?_
  | refine Ke_then ?_
  | refine Hid.mk ?_
  | (refine callR (letterIs _ _) ?_; rintro _ Hz ⟨rfl, hz⟩; subst Hz)
  | (refine callR (digitIs _ _) ?_; rintro _ Hz ⟨rfl, hz⟩; subst Hz)
  | (refine callR (signedIs _ _) ?_; rintro _ Hz ⟨rfl, hz⟩; subst Hz)
  | (refine callR (unsignedIs _ _) ?_; rintro _ Hz ⟨rfl, hz⟩; subst Hz)
  | refine Gs.mk (fun g => ?_) (fun g => ?_) <;> (try simp only [nm] at g)
  | refine Gr.mk (fun g => ?_) (fun g => ?_) <;> (try simp only [nm] at g)
  | (refine Run.of ?_; simp (maxSteps := 1000000) [*])
 all_goals (refine Kx.mk ?_; refine owes_one (.inr rfl) hwf rfl ?_ ?_ ?_ ?_)
 all_goals (try simp (maxDischargeDepth := 20) [letterB, *])
 all_goals simp_all
def digitB (n : Int) : Bool := if 48 ≤ n then (if n ≤ 57 then true else false) else false
theorem digitIs (H : AS) (n : Int) : ACalls Tryz.prog 99 [.val (.int .u8 n)] H fun q H' => q = pb (digitB n) ∧ H' = H := by
 refine ACalls_intro Tryz.func99 rfl (by kernel_rfl) (by simp) fun hwf hbel => ?_
 repeat' first
  | refine T_seq ?_
  | refine T_rgn ?_
  | refine T_cd ?_
  | refine T_sk ?_
  | refine T_rt ?_
  | refine T_block ?_
  | refine T_ex ?_
  | refine Kt_then ?_
  | refine Kt_block ?_
  | refine Kr_then ?_
  | refine Kr_block ?_
  | refine Ke_here ?_
  | refine Ke_then ?_
  | refine Hid.mk ?_
  | (refine callR (letterIs _ _) ?_; rintro _ Hz ⟨rfl, hz⟩; subst Hz)
  | (refine callR (digitIs _ _) ?_; rintro _ Hz ⟨rfl, hz⟩; subst Hz)
  | (refine callR (signedIs _ _) ?_; rintro _ Hz ⟨rfl, hz⟩; subst Hz)
  | (refine callR (unsignedIs _ _) ?_; rintro _ Hz ⟨rfl, hz⟩; subst Hz)
  | refine Gs.mk (fun g => ?_) (fun g => ?_) <;> (try simp only [nm] at g)
  | refine Gr.mk (fun g => ?_) (fun g => ?_) <;> (try simp only [nm] at g)
  | (refine Run.of ?_; simp (maxSteps := 1000000) [*])
 all_goals (refine Kx.mk ?_; refine owes_one (.inr rfl) hwf rfl ?_ ?_ ?_ ?_)
 all_goals (try simp (maxDischargeDepth := 20) [digitB, *])
 all_goals simp_all
def inWordB (n : Int) : Bool := if letterB n = true then true else if digitB n = true then true else if n = 95 then true else false
theorem inWordIs (H : AS) (n : Int) : ACalls Tryz.prog 78 [.val (.int .u8 n)] H fun q H' => q = pb (inWordB n) ∧ H' = H := by
 refine ACalls_intro Tryz.func78 rfl (by kernel_rfl) (by simp) fun hwf hbel => ?_
 repeat' first
  | refine T_seq ?_
  | refine T_rgn ?_
  | refine T_cd ?_
  | refine T_sk ?_
  | refine T_rt ?_
  | refine T_block ?_
  | refine T_ex ?_
  | refine Kt_then ?_
  | refine Kt_block ?_
  | refine Kr_then ?_
  | refine Kr_block ?_
  | refine Ke_here ?_
  | refine Ke_then ?_
  | refine Hid.mk ?_
  | (refine callR (letterIs _ _) ?_; rintro _ Hz ⟨rfl, hz⟩; subst Hz)
  | (refine callR (digitIs _ _) ?_; rintro _ Hz ⟨rfl, hz⟩; subst Hz)
  | (refine callR (signedIs _ _) ?_; rintro _ Hz ⟨rfl, hz⟩; subst Hz)
  | (refine callR (unsignedIs _ _) ?_; rintro _ Hz ⟨rfl, hz⟩; subst Hz)
  | refine Gs.mk (fun g => ?_) (fun g => ?_) <;> (try simp only [nm] at g)
  | refine Gr.mk (fun g => ?_) (fun g => ?_) <;> (try simp only [nm] at g)
  | (refine Run.of ?_; simp (maxSteps := 1000000) [*])
 all_goals (refine Kx.mk ?_; refine owes_one (.inr rfl) hwf rfl ?_ ?_ ?_ ?_)
 all_goals (try simp (maxDischargeDepth := 20) [inWordB, *])
 all_goals simp_all
def integerB (n : Int) : Bool := if 2 ≤ n then (if n ≤ 9 then true else false) else false
theorem integerIs (H : AS) (n : Int) : ACalls Tryz.prog 79 [.val (.int .u8 n)] H fun q H' => q = pb (integerB n) ∧ H' = H := by
 refine ACalls_intro Tryz.func79 rfl (by kernel_rfl) (by simp) fun hwf hbel => ?_
 repeat' first
  | refine T_seq ?_
  | refine T_rgn ?_
  | refine T_cd ?_
  | refine T_sk ?_
  | refine T_rt ?_
  | refine T_block ?_
  | refine T_ex ?_
  | refine Kt_then ?_
  | refine Kt_block ?_
  | refine Kr_then ?_
  | refine Kr_block ?_
  | refine Ke_here ?_
  | refine Ke_then ?_
  | refine Hid.mk ?_
  | (refine callR (letterIs _ _) ?_; rintro _ Hz ⟨rfl, hz⟩; subst Hz)
  | (refine callR (digitIs _ _) ?_; rintro _ Hz ⟨rfl, hz⟩; subst Hz)
  | (refine callR (signedIs _ _) ?_; rintro _ Hz ⟨rfl, hz⟩; subst Hz)
  | (refine callR (unsignedIs _ _) ?_; rintro _ Hz ⟨rfl, hz⟩; subst Hz)
  | refine Gs.mk (fun g => ?_) (fun g => ?_) <;> (try simp only [nm] at g)
  | refine Gr.mk (fun g => ?_) (fun g => ?_) <;> (try simp only [nm] at g)
  | (refine Run.of ?_; simp (maxSteps := 1000000) [*])
 all_goals (refine Kx.mk ?_; refine owes_one (.inr rfl) hwf rfl ?_ ?_ ?_ ?_)
 all_goals (try simp (maxDischargeDepth := 20) [integerB, *])
 all_goals simp_all
def knownB (n : Int) : Bool := if 1 ≤ n then (if n ≤ 19 then true else false) else false
theorem knownIs (H : AS) (n : Int) : ACalls Tryz.prog 120 [.val (.int .u8 n)] H fun q H' => q = pb (knownB n) ∧ H' = H := by
 refine ACalls_intro Tryz.func120 rfl (by kernel_rfl) (by simp) fun hwf hbel => ?_
 repeat' first
  | refine T_seq ?_
  | refine T_rgn ?_
  | refine T_cd ?_
  | refine T_sk ?_
  | refine T_rt ?_
  | refine T_block ?_
  | refine T_ex ?_
  | refine Kt_then ?_
  | refine Kt_block ?_
  | refine Kr_then ?_
  | refine Kr_block ?_
  | refine Ke_here ?_
  | refine Ke_then ?_
  | refine Hid.mk ?_
  | (refine callR (letterIs _ _) ?_; rintro _ Hz ⟨rfl, hz⟩; subst Hz)
  | (refine callR (digitIs _ _) ?_; rintro _ Hz ⟨rfl, hz⟩; subst Hz)
  | (refine callR (signedIs _ _) ?_; rintro _ Hz ⟨rfl, hz⟩; subst Hz)
  | (refine callR (unsignedIs _ _) ?_; rintro _ Hz ⟨rfl, hz⟩; subst Hz)
  | refine Gs.mk (fun g => ?_) (fun g => ?_) <;> (try simp only [nm] at g)
  | refine Gr.mk (fun g => ?_) (fun g => ?_) <;> (try simp only [nm] at g)
  | (refine Run.of ?_; simp (maxSteps := 1000000) [*])
 all_goals (refine Kx.mk ?_; refine owes_one (.inr rfl) hwf rfl ?_ ?_ ?_ ?_)
 all_goals (try simp (maxDischargeDepth := 20) [knownB, *])
 all_goals simp_all
def signedB (n : Int) : Bool := if 2 ≤ n then (if n ≤ 5 then true else false) else false
theorem signedIs (H : AS) (n : Int) : ACalls Tryz.prog 122 [.val (.int .u8 n)] H fun q H' => q = pb (signedB n) ∧ H' = H := by
 refine ACalls_intro Tryz.func122 rfl (by kernel_rfl) (by simp) fun hwf hbel => ?_
 repeat' first
  | refine T_seq ?_
  | refine T_rgn ?_
  | refine T_cd ?_
  | refine T_sk ?_
  | refine T_rt ?_
  | refine T_block ?_
  | refine T_ex ?_
  | refine Kt_then ?_
  | refine Kt_block ?_
  | refine Kr_then ?_
  | refine Kr_block ?_
  | refine Ke_here ?_
  | refine Ke_then ?_
  | refine Hid.mk ?_
  | (refine callR (letterIs _ _) ?_; rintro _ Hz ⟨rfl, hz⟩; subst Hz)
  | (refine callR (digitIs _ _) ?_; rintro _ Hz ⟨rfl, hz⟩; subst Hz)
  | (refine callR (signedIs _ _) ?_; rintro _ Hz ⟨rfl, hz⟩; subst Hz)
  | (refine callR (unsignedIs _ _) ?_; rintro _ Hz ⟨rfl, hz⟩; subst Hz)
  | refine Gs.mk (fun g => ?_) (fun g => ?_) <;> (try simp only [nm] at g)
  | refine Gr.mk (fun g => ?_) (fun g => ?_) <;> (try simp only [nm] at g)
  | (refine Run.of ?_; simp (maxSteps := 1000000) [*])
 all_goals (refine Kx.mk ?_; refine owes_one (.inr rfl) hwf rfl ?_ ?_ ?_ ?_)
 all_goals (try simp (maxDischargeDepth := 20) [signedB, *])
 all_goals simp_all
def unsignedB (n : Int) : Bool := if 6 ≤ n then (if n ≤ 9 then true else false) else false
theorem unsignedIs (H : AS) (n : Int) : ACalls Tryz.prog 123 [.val (.int .u8 n)] H fun q H' => q = pb (unsignedB n) ∧ H' = H := by
 refine ACalls_intro Tryz.func123 rfl (by kernel_rfl) (by simp) fun hwf hbel => ?_
 repeat' first
  | refine T_seq ?_
  | refine T_rgn ?_
  | refine T_cd ?_
  | refine T_sk ?_
  | refine T_rt ?_
  | refine T_block ?_
  | refine T_ex ?_
  | refine Kt_then ?_
  | refine Kt_block ?_
  | refine Kr_then ?_
  | refine Kr_block ?_
  | refine Ke_here ?_
  | refine Ke_then ?_
  | refine Hid.mk ?_
  | (refine callR (letterIs _ _) ?_; rintro _ Hz ⟨rfl, hz⟩; subst Hz)
  | (refine callR (digitIs _ _) ?_; rintro _ Hz ⟨rfl, hz⟩; subst Hz)
  | (refine callR (signedIs _ _) ?_; rintro _ Hz ⟨rfl, hz⟩; subst Hz)
  | (refine callR (unsignedIs _ _) ?_; rintro _ Hz ⟨rfl, hz⟩; subst Hz)
  | refine Gs.mk (fun g => ?_) (fun g => ?_) <;> (try simp only [nm] at g)
  | refine Gr.mk (fun g => ?_) (fun g => ?_) <;> (try simp only [nm] at g)
  | (refine Run.of ?_; simp (maxSteps := 1000000) [*])
 all_goals (refine Kx.mk ?_; refine owes_one (.inr rfl) hwf rfl ?_ ?_ ?_ ?_)
 all_goals (try simp (maxDischargeDepth := 20) [unsignedB, *])
 all_goals simp_all
def rowB (n : Int) : Bool := if 10 ≤ n then (if n ≤ 13 then true else false) else false
theorem rowIs (H : AS) (n : Int) : ACalls Tryz.prog 124 [.val (.int .u8 n)] H fun q H' => q = pb (rowB n) ∧ H' = H := by
 refine ACalls_intro Tryz.func124 rfl (by kernel_rfl) (by simp) fun hwf hbel => ?_
 repeat' first
  | refine T_seq ?_
  | refine T_rgn ?_
  | refine T_cd ?_
  | refine T_sk ?_
  | refine T_rt ?_
  | refine T_block ?_
  | refine T_ex ?_
  | refine Kt_then ?_
  | refine Kt_block ?_
  | refine Kr_then ?_
  | refine Kr_block ?_
  | refine Ke_here ?_
  | refine Ke_then ?_
  | refine Hid.mk ?_
  | (refine callR (letterIs _ _) ?_; rintro _ Hz ⟨rfl, hz⟩; subst Hz)
  | (refine callR (digitIs _ _) ?_; rintro _ Hz ⟨rfl, hz⟩; subst Hz)
  | (refine callR (signedIs _ _) ?_; rintro _ Hz ⟨rfl, hz⟩; subst Hz)
  | (refine callR (unsignedIs _ _) ?_; rintro _ Hz ⟨rfl, hz⟩; subst Hz)
  | refine Gs.mk (fun g => ?_) (fun g => ?_) <;> (try simp only [nm] at g)
  | refine Gr.mk (fun g => ?_) (fun g => ?_) <;> (try simp only [nm] at g)
  | (refine Run.of ?_; simp (maxSteps := 1000000) [*])
 all_goals (refine Kx.mk ?_; refine owes_one (.inr rfl) hwf rfl ?_ ?_ ?_ ?_)
 all_goals (try simp (maxDischargeDepth := 20) [rowB, *])
 all_goals simp_all
def wholeB (n : Int) : Bool := if signedB n = true then true else if unsignedB n = true then true else false
theorem wholeIs (H : AS) (n : Int) : ACalls Tryz.prog 101 [.val (.int .u8 n)] H fun q H' => q = pb (wholeB n) ∧ H' = H := by
 refine ACalls_intro Tryz.func101 rfl (by kernel_rfl) (by simp) fun hwf hbel => ?_
 repeat' first
  | refine T_seq ?_
  | refine T_rgn ?_
  | refine T_cd ?_
  | refine T_sk ?_
  | refine T_rt ?_
  | refine T_block ?_
  | refine T_ex ?_
  | refine Kt_then ?_
  | refine Kt_block ?_
  | refine Kr_then ?_
  | refine Kr_block ?_
  | refine Ke_here ?_
  | refine Ke_then ?_
  | refine Hid.mk ?_
  | (refine callR (letterIs _ _) ?_; rintro _ Hz ⟨rfl, hz⟩; subst Hz)
  | (refine callR (digitIs _ _) ?_; rintro _ Hz ⟨rfl, hz⟩; subst Hz)
  | (refine callR (signedIs _ _) ?_; rintro _ Hz ⟨rfl, hz⟩; subst Hz)
  | (refine callR (unsignedIs _ _) ?_; rintro _ Hz ⟨rfl, hz⟩; subst Hz)
  | refine Gs.mk (fun g => ?_) (fun g => ?_) <;> (try simp only [nm] at g)
  | refine Gr.mk (fun g => ?_) (fun g => ?_) <;> (try simp only [nm] at g)
  | (refine Run.of ?_; simp (maxSteps := 1000000) [*])
 all_goals (refine Kx.mk ?_; refine owes_one (.inr rfl) hwf rfl ?_ ?_ ?_ ?_)
 all_goals (try simp (maxDischargeDepth := 20) [wholeB, *])
 all_goals simp_all
def numberB (n : Int) (m : Int) : Bool := if 0 ≤ n then (if n ≤ m then true else false) else false
theorem numberIs (H : AS) (n : Int) (m : Int) : ACalls Tryz.prog 86 [pi n, pi m] H fun q H' => q = pb (numberB n m) ∧ H' = H := by
 refine ACalls_intro Tryz.func86 rfl (by kernel_rfl) (by simp) fun hwf hbel => ?_
 repeat' first
  | refine T_seq ?_
  | refine T_rgn ?_
  | refine T_cd ?_
  | refine T_sk ?_
  | refine T_rt ?_
  | refine T_block ?_
  | refine T_ex ?_
  | refine Kt_then ?_
  | refine Kt_block ?_
  | refine Kr_then ?_
  | refine Kr_block ?_
  | refine Ke_here ?_
  | refine Ke_then ?_
  | refine Hid.mk ?_
  | (refine callR (letterIs _ _) ?_; rintro _ Hz ⟨rfl, hz⟩; subst Hz)
  | (refine callR (digitIs _ _) ?_; rintro _ Hz ⟨rfl, hz⟩; subst Hz)
  | (refine callR (signedIs _ _) ?_; rintro _ Hz ⟨rfl, hz⟩; subst Hz)
  | (refine callR (unsignedIs _ _) ?_; rintro _ Hz ⟨rfl, hz⟩; subst Hz)
  | refine Gs.mk (fun g => ?_) (fun g => ?_) <;> (try simp only [nm] at g)
  | refine Gr.mk (fun g => ?_) (fun g => ?_) <;> (try simp only [nm] at g)
  | (refine Run.of ?_; simp (maxSteps := 1000000) [*])
 all_goals (refine Kx.mk ?_; refine owes_one (.inr rfl) hwf rfl ?_ ?_ ?_ ?_)
 all_goals (try simp (maxDischargeDepth := 20) [numberB, *])
 all_goals simp_all
def areaB (n : Int) : Bool := if 1 ≤ n then (if n ≤ 3 then true else false) else false
theorem areaIs (H : AS) (n : Int) : ACalls Tryz.prog 107 [pi n] H fun q H' => q = pb (areaB n) ∧ H' = H := by
 refine ACalls_intro Tryz.func107 rfl (by kernel_rfl) (by simp) fun hwf hbel => ?_
 repeat' first
  | refine T_seq ?_
  | refine T_rgn ?_
  | refine T_cd ?_
  | refine T_sk ?_
  | refine T_rt ?_
  | refine T_block ?_
  | refine T_ex ?_
  | refine Kt_then ?_
  | refine Kt_block ?_
  | refine Kr_then ?_
  | refine Kr_block ?_
  | refine Ke_here ?_
  | refine Ke_then ?_
  | refine Hid.mk ?_
  | (refine callR (letterIs _ _) ?_; rintro _ Hz ⟨rfl, hz⟩; subst Hz)
  | (refine callR (digitIs _ _) ?_; rintro _ Hz ⟨rfl, hz⟩; subst Hz)
  | (refine callR (signedIs _ _) ?_; rintro _ Hz ⟨rfl, hz⟩; subst Hz)
  | (refine callR (unsignedIs _ _) ?_; rintro _ Hz ⟨rfl, hz⟩; subst Hz)
  | refine Gs.mk (fun g => ?_) (fun g => ?_) <;> (try simp only [nm] at g)
  | refine Gr.mk (fun g => ?_) (fun g => ?_) <;> (try simp only [nm] at g)
  | (refine Run.of ?_; simp (maxSteps := 1000000) [*])
 all_goals (refine Kx.mk ?_; refine owes_one (.inr rfl) hwf rfl ?_ ?_ ?_ ?_)
 all_goals (try simp (maxDischargeDepth := 20) [areaB, *])
 all_goals simp_all
@[ext] structure DType where
 kind : Int
 sub : Bool
 lo : Int
 hi : Int
 max : Int
 array : Bool
 fr : Int
 to : Int
 block : ByteArray
@[ext] structure DLook where
 f : DFlat
 codes : Int
@[ext] structure DNeed where
 a : Bool
 b : Bool
 c : Bool
 d : Bool
 bounds : Bool
 value : Bool
def DType.row (x : DType) : List PV := [.val (.int .u8 x.kind), pb x.sub, pi x.lo, pi x.hi, pi x.max, pb x.array, pi x.fr, pi x.to, ps x.block]
def DLook.row (c : Nat) (x : DLook) : List PV := [ps x.f.name, pi x.f.what, pi x.f.cells, pi x.f.base, pi x.f.regs, pi x.f.slots, PV.sl c 10 (x.f.ops.map DOp.row), PV.sl c 3 (x.f.loops.map DLoop.row), pi x.codes]
def DNeed.row (x : DNeed) : List PV := [pb x.a, pb x.b, pb x.c, pb x.d, pb x.bounds, pb x.value]
def eqv (k b : Int) (t : ByteArray) (k' b' : Int) (t' : ByteArray) : Bool := decide (k = k') && decide (b = b') && decide (t = t')
theorem eq42' (k b k' b' : Int) (t t' : ByteArray) (d : Nat) : aEqIn Tryz.prog (d + 2) 42 (.agg [.val (.int .u8 k), .val (.int .u64 b), .val (.string t)]) (.agg [.val (.int .u8 k'), .val (.int .u64 b'), .val (.string t')]) = some (eqv k b t k' b' t') := by
 simp [aEqIn, Program.fieldsOf, aEqIn.go, partOf, aEqCell, beq_bytes, eqv, int_beq, Bool.and_assoc]
theorem eq42 (k b k' b' : Int) (t t' : ByteArray) : aEqIn Tryz.prog Op.maxDepth 42 (.agg [.val (.int .u8 k), .val (.int .u64 b), .val (.string t)]) (.agg [.val (.int .u8 k'), .val (.int .u64 b'), .val (.string t')]) = some (eqv k b t k' b' t') := eq42' k b k' b' t t' 9998
@[simp] theorem gd42 : Tryz.prog.eqGuardType Tryz.prog.depth 42 = false := by kernel_rfl
theorem nx2 (n : Nat) : (n = n + 1 + 1) = False := by simp; omega
theorem nx2' (n : Nat) : (n + 1 + 1 = n) = False := by simp; omega
theorem nx3 (n : Nat) : (n ≤ n + 1 + 1) = True := by simp; omega
theorem bump_setBox (H : AS) (m id : Nat) (r : List (List PV)) : (H.bump m).setBox id r = (H.setBox id r).bump m := rfl
theorem owes_two {P : Program} {H : AS} {fn : Func} {x y : Value} {q : PV} {F' : AF} {H' : AS} {e : Exit} (he : e = .normal ∨ e = .ret) (hwf : WF H) (hr : aResults P F' H' fn.results.toList = some [.val x, .val y]) (hq : .tuple [.val x, .val y] = q)
  (hext : H.Ext H') (h1 : Frozen (.val x)) (h2 : Frozen (.val y)) : Owes P fn H (fun r H'' => r = q ∧ H'' = H) e F' H' := by
 subst hq
 refine owes_pure he hwf hr ?_ ?_ ?_ <;> simp [frzVs, frzV_one (p := .val x) ⟨by simp, h1⟩, frzV_one (p := .val y) ⟨by simp, h2⟩, packed]
 exact hext
theorem wrap_nn (x : Int) : 0 ≤ IntKind.u64.wrap x := by
 have : IntKind.u64.wrap x = x % 18446744073709551616 := rfl
 omega
def nanB (x : Nat) : Bool := FloatKind.f64.format.order x x != some .eq
theorem isNaN_plain (x : Nat) (w : World) : Calls Tryz.prog 118 #[.float .f64 x] w fun e w' => e = .returned (.bool (nanB x)) ∧ w' = w := by
 go_enter Tryz.func118, Tryz.ntmps118
 go_wp2
 rw [show (Sem.run Tryz.prog (binOp .neq 161 (.float .f64 x) (.float .f64 x)) w) = .ok (.bool (nanB x)) w from rfl]
 go_wp2
 go_ret
 exact ⟨rfl, rfl⟩
theorem isNaNIs (H : AS) (x : Nat) : ACalls Tryz.prog 118 [.val (.float .f64 x)] H fun q H' => q = pb (nanB x) ∧ H' = H :=
 ACalls.of_plain (vs := [.float .f64 x]) Tryz.func118 (by kernel_rfl) (by kernel_rfl) fun w => isNaN_plain x w
theorem frombitsIs (H : AS) (n : Int) : ACalls Tryz.prog 119 [.val (.int .u64 n)] H fun q H' => q = .val (.float .f64 n.toNat) ∧ H' = H := by
 have h : XCalls Tryz.prog 119 [.val (.int .u64 n)] H fun q H' => q = .val (.float .f64 n.toNat) ∧ H' = H := by
  refine ⟨_, Extern.MathFloatBits.float64frombits, Tryz.func119, by kernel_rfl, by kernel_rfl, by kernel_rfl, by kernel_rfl, fun G w vs hr hall => ?_⟩
  match vs, hall with
  | [v], h =>
   cases rep_val h.1
   exact ⟨_, w, G, _, H, rfl, .refl G, hr, .val _, rfl, rfl⟩
 exact Or.inr h
def regB (k : DLook) (n : Int) : Bool := if 0 ≤ n then (if n < k.f.regs then true else false) else false
theorem regIs (H : AS)  (c : Nat) (k : DLook) (n : Int) : ACalls Tryz.prog 106 [.agg (k.row c), pi n] H fun q H' => q = pb (regB k n) ∧ H' = H := by
 refine ACalls_intro Tryz.func106 rfl (by kernel_rfl) (by simp) fun hwf hbel => ?_
 repeat' first
  | refine T_seq ?_
  | refine T_rgn ?_
  | refine T_cd ?_
  | refine T_sk ?_
  | refine T_rt ?_
  | refine T_block ?_
  | refine T_ex ?_
  | refine Kt_then ?_
  | refine Kt_block ?_
  | refine Kr_then ?_
  | refine Kr_block ?_
  | refine Ke_here ?_
  | refine Ke_then ?_
  | refine Hid.mk ?_
  | (refine callR (widthIs _ _) ?_; rintro _ Hz ⟨rfl, hz⟩; subst Hz)
  | (refine callR (mostIs _ _) ?_; rintro _ Hz ⟨rfl, hz⟩; subst Hz)
  | (refine callR (fitsIs _ _ _) ?_; rintro _ Hz ⟨rfl, hz⟩; subst Hz)
  | (refine callR (signedIs _ _) ?_; rintro _ Hz ⟨rfl, hz⟩; subst Hz)
  | (refine callR (unsignedIs _ _) ?_; rintro _ Hz ⟨rfl, hz⟩; subst Hz)
  | (refine callR (rowIs _ _) ?_; rintro _ Hz ⟨rfl, hz⟩; subst Hz)
  | (refine callR (knownIs _ _) ?_; rintro _ Hz ⟨rfl, hz⟩; subst Hz)
  | (refine callR (isNaNIs _ _) ?_; rintro _ Hz ⟨rfl, hz⟩; subst Hz)
  | (refine callR (frombitsIs _ _) ?_; rintro _ Hz ⟨rfl, hz⟩; subst Hz)
  | refine Gs.mk (fun g => ?_) (fun g => ?_) <;> (try simp only [nm] at g)
  | refine Gr.mk (fun g => ?_) (fun g => ?_) <;> (try simp only [nm] at g)
  | (refine Run.of ?_; simp (maxSteps := 1000000) [*, DVal.row, DLook.row, DFlat.row, beq_bytes, wrap_nn])
 all_goals (refine Kx.mk ?_; refine owes_one (.inr rfl) hwf rfl ?_ ?_ ?_ ?_)
 all_goals (try simp (maxDischargeDepth := 20) [regB, *])
 all_goals simp_all
def slotB (k : DLook) (n : Int) : Bool := if 0 ≤ n then (if n < k.f.slots then true else false) else false
theorem slotIs (H : AS)  (c : Nat) (k : DLook) (n : Int) : ACalls Tryz.prog 130 [.agg (k.row c), pi n] H fun q H' => q = pb (slotB k n) ∧ H' = H := by
 refine ACalls_intro Tryz.func130 rfl (by kernel_rfl) (by simp) fun hwf hbel => ?_
 repeat' first
  | refine T_seq ?_
  | refine T_rgn ?_
  | refine T_cd ?_
  | refine T_sk ?_
  | refine T_rt ?_
  | refine T_block ?_
  | refine T_ex ?_
  | refine Kt_then ?_
  | refine Kt_block ?_
  | refine Kr_then ?_
  | refine Kr_block ?_
  | refine Ke_here ?_
  | refine Ke_then ?_
  | refine Hid.mk ?_
  | (refine callR (widthIs _ _) ?_; rintro _ Hz ⟨rfl, hz⟩; subst Hz)
  | (refine callR (mostIs _ _) ?_; rintro _ Hz ⟨rfl, hz⟩; subst Hz)
  | (refine callR (fitsIs _ _ _) ?_; rintro _ Hz ⟨rfl, hz⟩; subst Hz)
  | (refine callR (signedIs _ _) ?_; rintro _ Hz ⟨rfl, hz⟩; subst Hz)
  | (refine callR (unsignedIs _ _) ?_; rintro _ Hz ⟨rfl, hz⟩; subst Hz)
  | (refine callR (rowIs _ _) ?_; rintro _ Hz ⟨rfl, hz⟩; subst Hz)
  | (refine callR (knownIs _ _) ?_; rintro _ Hz ⟨rfl, hz⟩; subst Hz)
  | (refine callR (isNaNIs _ _) ?_; rintro _ Hz ⟨rfl, hz⟩; subst Hz)
  | (refine callR (frombitsIs _ _) ?_; rintro _ Hz ⟨rfl, hz⟩; subst Hz)
  | refine Gs.mk (fun g => ?_) (fun g => ?_) <;> (try simp only [nm] at g)
  | refine Gr.mk (fun g => ?_) (fun g => ?_) <;> (try simp only [nm] at g)
  | (refine Run.of ?_; simp (maxSteps := 1000000) [*, DVal.row, DLook.row, DFlat.row, beq_bytes, wrap_nn])
 all_goals (refine Kx.mk ?_; refine owes_one (.inr rfl) hwf rfl ?_ ?_ ?_ ?_)
 all_goals (try simp (maxDischargeDepth := 20) [slotB, *])
 all_goals simp_all
def placeB (k : DLook) (n : Int) : Bool := if 0 ≤ n then (if n < (k.f.ops.length : Int) then true else false) else false
theorem placeIs (H : AS)  (c : Nat) (k : DLook) (n : Int) : ACalls Tryz.prog 129 [.agg (k.row c), pi n] H fun q H' => q = pb (placeB k n) ∧ H' = H := by
 refine ACalls_intro Tryz.func129 rfl (by kernel_rfl) (by simp) fun hwf hbel => ?_
 repeat' first
  | refine T_seq ?_
  | refine T_rgn ?_
  | refine T_cd ?_
  | refine T_sk ?_
  | refine T_rt ?_
  | refine T_block ?_
  | refine T_ex ?_
  | refine Kt_then ?_
  | refine Kt_block ?_
  | refine Kr_then ?_
  | refine Kr_block ?_
  | refine Ke_here ?_
  | refine Ke_then ?_
  | refine Hid.mk ?_
  | (refine callR (widthIs _ _) ?_; rintro _ Hz ⟨rfl, hz⟩; subst Hz)
  | (refine callR (mostIs _ _) ?_; rintro _ Hz ⟨rfl, hz⟩; subst Hz)
  | (refine callR (fitsIs _ _ _) ?_; rintro _ Hz ⟨rfl, hz⟩; subst Hz)
  | (refine callR (signedIs _ _) ?_; rintro _ Hz ⟨rfl, hz⟩; subst Hz)
  | (refine callR (unsignedIs _ _) ?_; rintro _ Hz ⟨rfl, hz⟩; subst Hz)
  | (refine callR (rowIs _ _) ?_; rintro _ Hz ⟨rfl, hz⟩; subst Hz)
  | (refine callR (knownIs _ _) ?_; rintro _ Hz ⟨rfl, hz⟩; subst Hz)
  | (refine callR (isNaNIs _ _) ?_; rintro _ Hz ⟨rfl, hz⟩; subst Hz)
  | (refine callR (frombitsIs _ _) ?_; rintro _ Hz ⟨rfl, hz⟩; subst Hz)
  | refine Gs.mk (fun g => ?_) (fun g => ?_) <;> (try simp only [nm] at g)
  | refine Gr.mk (fun g => ?_) (fun g => ?_) <;> (try simp only [nm] at g)
  | (refine Run.of ?_; simp (maxSteps := 1000000) [*, DVal.row, DLook.row, DFlat.row, beq_bytes, wrap_nn])
 all_goals (refine Kx.mk ?_; refine owes_one (.inr rfl) hwf rfl ?_ ?_ ?_ ?_)
 all_goals (try simp (maxDischargeDepth := 20) [placeB, *])
 all_goals simp_all
def nearB (n : Int) (m : Int) : Bool := if n ≤ m then (if (IntKind.wrap .u64 (IntKind.wrap .i64 (m - n))) < 256 then true else false) else false
theorem nearIs (H : AS) (n : Int) (m : Int) : ACalls Tryz.prog 108 [pi n, pi m] H fun q H' => q = pb (nearB n m) ∧ H' = H := by
 refine ACalls_intro Tryz.func108 rfl (by kernel_rfl) (by simp) fun hwf hbel => ?_
 repeat' first
  | refine T_seq ?_
  | refine T_rgn ?_
  | refine T_cd ?_
  | refine T_sk ?_
  | refine T_rt ?_
  | refine T_block ?_
  | refine T_ex ?_
  | refine Kt_then ?_
  | refine Kt_block ?_
  | refine Kr_then ?_
  | refine Kr_block ?_
  | refine Ke_here ?_
  | refine Ke_then ?_
  | refine Hid.mk ?_
  | (refine callR (widthIs _ _) ?_; rintro _ Hz ⟨rfl, hz⟩; subst Hz)
  | (refine callR (mostIs _ _) ?_; rintro _ Hz ⟨rfl, hz⟩; subst Hz)
  | (refine callR (fitsIs _ _ _) ?_; rintro _ Hz ⟨rfl, hz⟩; subst Hz)
  | (refine callR (signedIs _ _) ?_; rintro _ Hz ⟨rfl, hz⟩; subst Hz)
  | (refine callR (unsignedIs _ _) ?_; rintro _ Hz ⟨rfl, hz⟩; subst Hz)
  | (refine callR (rowIs _ _) ?_; rintro _ Hz ⟨rfl, hz⟩; subst Hz)
  | (refine callR (knownIs _ _) ?_; rintro _ Hz ⟨rfl, hz⟩; subst Hz)
  | (refine callR (isNaNIs _ _) ?_; rintro _ Hz ⟨rfl, hz⟩; subst Hz)
  | (refine callR (frombitsIs _ _) ?_; rintro _ Hz ⟨rfl, hz⟩; subst Hz)
  | refine Gs.mk (fun g => ?_) (fun g => ?_) <;> (try simp only [nm] at g)
  | refine Gr.mk (fun g => ?_) (fun g => ?_) <;> (try simp only [nm] at g)
  | (refine Run.of ?_; simp (maxSteps := 1000000) [*, DVal.row, DLook.row, DFlat.row, beq_bytes, wrap_nn])
 all_goals (refine Kx.mk ?_; refine owes_one (.inr rfl) hwf rfl ?_ ?_ ?_ ?_)
 all_goals (try simp (maxDischargeDepth := 20) [nearB, *])
 all_goals simp_all
def bitsN (n : Int) : Int := if n = 1 then 1 else if n = 2 then 8 else if n = 6 then 8 else if n = 10 then 8 else if n = 3 then 16 else if n = 7 then 16 else if n = 11 then 16 else if n = 4 then 32 else if n = 8 then 32 else if n = 12 then 32 else if n = 5 then 64 else if n = 9 then 64 else if n = 13 then 64 else 0
theorem bitsIs (H : AS) (n : Int) : ACalls Tryz.prog 82 [.val (.int .u8 n)] H fun q H' => q = pi (bitsN n) ∧ H' = H := by
 refine ACalls_intro Tryz.func82 rfl (by kernel_rfl) (by simp) fun hwf hbel => ?_
 repeat' first
  | refine T_seq ?_
  | refine T_rgn ?_
  | refine T_cd ?_
  | refine T_sk ?_
  | refine T_rt ?_
  | refine T_block ?_
  | refine T_ex ?_
  | refine Kt_then ?_
  | refine Kt_block ?_
  | refine Kr_then ?_
  | refine Kr_block ?_
  | refine Ke_here ?_
  | refine Ke_then ?_
  | refine Hid.mk ?_
  | (refine callR (widthIs _ _) ?_; rintro _ Hz ⟨rfl, hz⟩; subst Hz)
  | (refine callR (mostIs _ _) ?_; rintro _ Hz ⟨rfl, hz⟩; subst Hz)
  | (refine callR (fitsIs _ _ _) ?_; rintro _ Hz ⟨rfl, hz⟩; subst Hz)
  | (refine callR (signedIs _ _) ?_; rintro _ Hz ⟨rfl, hz⟩; subst Hz)
  | (refine callR (unsignedIs _ _) ?_; rintro _ Hz ⟨rfl, hz⟩; subst Hz)
  | (refine callR (rowIs _ _) ?_; rintro _ Hz ⟨rfl, hz⟩; subst Hz)
  | (refine callR (knownIs _ _) ?_; rintro _ Hz ⟨rfl, hz⟩; subst Hz)
  | (refine callR (isNaNIs _ _) ?_; rintro _ Hz ⟨rfl, hz⟩; subst Hz)
  | (refine callR (frombitsIs _ _) ?_; rintro _ Hz ⟨rfl, hz⟩; subst Hz)
  | refine Gs.mk (fun g => ?_) (fun g => ?_) <;> (try simp only [nm] at g)
  | refine Gr.mk (fun g => ?_) (fun g => ?_) <;> (try simp only [nm] at g)
  | (refine Run.of ?_; simp (maxSteps := 1000000) [*, DVal.row, DLook.row, DFlat.row, beq_bytes, wrap_nn])
 all_goals (refine Kx.mk ?_; refine owes_one (.inr rfl) hwf rfl ?_ ?_ ?_ ?_)
 all_goals (try simp (maxDischargeDepth := 20) [bitsN, *])
 all_goals simp_all
def widthN (n : Int) : Int := if n = 2 then 8 else if n = 6 then 8 else if n = 10 then 8 else if n = 3 then 16 else if n = 7 then 16 else if n = 11 then 16 else if n = 4 then 32 else if n = 8 then 32 else if n = 12 then 32 else 64
theorem widthIs (H : AS) (n : Int) : ACalls Tryz.prog 137 [.val (.int .u8 n)] H fun q H' => q = (fun (z : Int) => PV.val (.int .u64 z)) (widthN n) ∧ H' = H := by
 refine ACalls_intro Tryz.func137 rfl (by kernel_rfl) (by simp) fun hwf hbel => ?_
 repeat' first
  | refine T_seq ?_
  | refine T_rgn ?_
  | refine T_cd ?_
  | refine T_sk ?_
  | refine T_rt ?_
  | refine T_block ?_
  | refine T_ex ?_
  | refine Kt_then ?_
  | refine Kt_block ?_
  | refine Kr_then ?_
  | refine Kr_block ?_
  | refine Ke_here ?_
  | refine Ke_then ?_
  | refine Hid.mk ?_
  | (refine callR (widthIs _ _) ?_; rintro _ Hz ⟨rfl, hz⟩; subst Hz)
  | (refine callR (mostIs _ _) ?_; rintro _ Hz ⟨rfl, hz⟩; subst Hz)
  | (refine callR (fitsIs _ _ _) ?_; rintro _ Hz ⟨rfl, hz⟩; subst Hz)
  | (refine callR (signedIs _ _) ?_; rintro _ Hz ⟨rfl, hz⟩; subst Hz)
  | (refine callR (unsignedIs _ _) ?_; rintro _ Hz ⟨rfl, hz⟩; subst Hz)
  | (refine callR (rowIs _ _) ?_; rintro _ Hz ⟨rfl, hz⟩; subst Hz)
  | (refine callR (knownIs _ _) ?_; rintro _ Hz ⟨rfl, hz⟩; subst Hz)
  | (refine callR (isNaNIs _ _) ?_; rintro _ Hz ⟨rfl, hz⟩; subst Hz)
  | (refine callR (frombitsIs _ _) ?_; rintro _ Hz ⟨rfl, hz⟩; subst Hz)
  | refine Gs.mk (fun g => ?_) (fun g => ?_) <;> (try simp only [nm] at g)
  | refine Gr.mk (fun g => ?_) (fun g => ?_) <;> (try simp only [nm] at g)
  | (refine Run.of ?_; simp (maxSteps := 1000000) [*, DVal.row, DLook.row, DFlat.row, beq_bytes, wrap_nn])
 all_goals (refine Kx.mk ?_; refine owes_one (.inr rfl) hwf rfl ?_ ?_ ?_ ?_)
 all_goals (try simp (maxDischargeDepth := 20) [widthN, *])
 all_goals simp_all
def mostN (n : Int) : Int := (Int.fdiv 18446744073709551615 (2 ^ min ((IntKind.wrap .u64 (64 - (widthN n)))).toNat IntKind.u64.bits))
theorem mostIs (H : AS) (n : Int) : ACalls Tryz.prog 138 [.val (.int .u8 n)] H fun q H' => q = (fun (z : Int) => PV.val (.int .u64 z)) (mostN n) ∧ H' = H := by
 refine ACalls_intro Tryz.func138 rfl (by kernel_rfl) (by simp) fun hwf hbel => ?_
 repeat' first
  | refine T_seq ?_
  | refine T_rgn ?_
  | refine T_cd ?_
  | refine T_sk ?_
  | refine T_rt ?_
  | refine T_block ?_
  | refine T_ex ?_
  | refine Kt_then ?_
  | refine Kt_block ?_
  | refine Kr_then ?_
  | refine Kr_block ?_
  | refine Ke_here ?_
  | refine Ke_then ?_
  | refine Hid.mk ?_
  | (refine callR (widthIs _ _) ?_; rintro _ Hz ⟨rfl, hz⟩; subst Hz)
  | (refine callR (mostIs _ _) ?_; rintro _ Hz ⟨rfl, hz⟩; subst Hz)
  | (refine callR (fitsIs _ _ _) ?_; rintro _ Hz ⟨rfl, hz⟩; subst Hz)
  | (refine callR (signedIs _ _) ?_; rintro _ Hz ⟨rfl, hz⟩; subst Hz)
  | (refine callR (unsignedIs _ _) ?_; rintro _ Hz ⟨rfl, hz⟩; subst Hz)
  | (refine callR (rowIs _ _) ?_; rintro _ Hz ⟨rfl, hz⟩; subst Hz)
  | (refine callR (knownIs _ _) ?_; rintro _ Hz ⟨rfl, hz⟩; subst Hz)
  | (refine callR (isNaNIs _ _) ?_; rintro _ Hz ⟨rfl, hz⟩; subst Hz)
  | (refine callR (frombitsIs _ _) ?_; rintro _ Hz ⟨rfl, hz⟩; subst Hz)
  | refine Gs.mk (fun g => ?_) (fun g => ?_) <;> (try simp only [nm] at g)
  | refine Gr.mk (fun g => ?_) (fun g => ?_) <;> (try simp only [nm] at g)
  | (refine Run.of ?_; simp (maxSteps := 1000000) [*, DVal.row, DLook.row, DFlat.row, beq_bytes, wrap_nn])
 all_goals (refine Kx.mk ?_; refine owes_one (.inr rfl) hwf rfl ?_ ?_ ?_ ?_)
 all_goals (try simp (maxDischargeDepth := 20) [mostN, *])
 all_goals simp_all
def fitsB (n : Int) (m : Int) : Bool := if n = 1 then (if m ≤ 1 then true else false) else if signedB n = true then (if (IntKind.wrap .i64 (-(IntKind.wrap .i64 (2 ^ min ((IntKind.wrap .u64 ((widthN n) - 1))).toNat IntKind.i64.bits)))) ≤ (IntKind.wrap .i64 m) then (if (IntKind.wrap .i64 m) ≤ (IntKind.wrap .i64 ((IntKind.wrap .i64 (2 ^ min ((IntKind.wrap .u64 ((widthN n) - 1))).toNat IntKind.i64.bits)) - 1)) then true else if (widthN n) = 64 then true else false) else if (widthN n) = 64 then true else false) else if unsignedB n = true then (if m ≤ (mostN n) then true else false) else if rowB n = true then (if m ≤ (mostN n) then true else false) else if n = 14 then true else if n = 15 then (if m < 7258118400000000000 then (if (Int.tmod m 86400000000000) = 0 then true else false) else false) else if n = 16 then (if m < 86400000000000 then true else false) else if n = 17 then (if m < 7258118400000000000 then true else false) else false
theorem fitsIs (H : AS) (n : Int) (m : Int) : ACalls Tryz.prog 121 [.val (.int .u8 n), .val (.int .u64 m)] H fun q H' => q = pb (fitsB n m) ∧ H' = H := by
 refine ACalls_intro Tryz.func121 rfl (by kernel_rfl) (by simp) fun hwf hbel => ?_
 repeat' first
  | refine T_seq ?_
  | refine T_rgn ?_
  | refine T_cd ?_
  | refine T_sk ?_
  | refine T_rt ?_
  | refine T_block ?_
  | refine T_ex ?_
  | refine Kt_then ?_
  | refine Kt_block ?_
  | refine Kr_then ?_
  | refine Kr_block ?_
  | refine Ke_here ?_
  | refine Ke_then ?_
  | refine Hid.mk ?_
  | (refine callR (widthIs _ _) ?_; rintro _ Hz ⟨rfl, hz⟩; subst Hz)
  | (refine callR (mostIs _ _) ?_; rintro _ Hz ⟨rfl, hz⟩; subst Hz)
  | (refine callR (fitsIs _ _ _) ?_; rintro _ Hz ⟨rfl, hz⟩; subst Hz)
  | (refine callR (signedIs _ _) ?_; rintro _ Hz ⟨rfl, hz⟩; subst Hz)
  | (refine callR (unsignedIs _ _) ?_; rintro _ Hz ⟨rfl, hz⟩; subst Hz)
  | (refine callR (rowIs _ _) ?_; rintro _ Hz ⟨rfl, hz⟩; subst Hz)
  | (refine callR (knownIs _ _) ?_; rintro _ Hz ⟨rfl, hz⟩; subst Hz)
  | (refine callR (isNaNIs _ _) ?_; rintro _ Hz ⟨rfl, hz⟩; subst Hz)
  | (refine callR (frombitsIs _ _) ?_; rintro _ Hz ⟨rfl, hz⟩; subst Hz)
  | refine Gs.mk (fun g => ?_) (fun g => ?_) <;> (try simp only [nm] at g)
  | refine Gr.mk (fun g => ?_) (fun g => ?_) <;> (try simp only [nm] at g)
  | (refine Run.of ?_; simp (maxSteps := 1000000) [*, DVal.row, DLook.row, DFlat.row, beq_bytes, wrap_nn])
 all_goals (refine Kx.mk ?_; refine owes_one (.inr rfl) hwf rfl ?_ ?_ ?_ ?_)
 all_goals (try simp (maxDischargeDepth := 20) [fitsB, *])
 all_goals simp_all
def mayV (v : DVal) : Bool := if v.kind = 19 then (if v.bits = 0 then (if (v.text.size : Int) ≤ 254 then true else false) else false) else if v.text = ⟨#[]⟩ then (if v.kind = 18 then (if nanB (v.bits).toNat = true then (if v.bits = 9221120237041090561 then true else false) else true) else if knownB v.kind = true then (if fitsB v.kind v.bits = true then true else false) else false) else false
theorem mayVIs (H : AS) (v : DVal) : ACalls Tryz.prog 100 [.agg (v.row)] H fun q H' => q = pb (mayV v) ∧ H' = H := by
 refine ACalls_intro Tryz.func100 rfl (by kernel_rfl) (by simp) fun hwf hbel => ?_
 repeat' first
  | refine T_seq ?_
  | refine T_rgn ?_
  | refine T_cd ?_
  | refine T_sk ?_
  | refine T_rt ?_
  | refine T_block ?_
  | refine T_ex ?_
  | refine Kt_then ?_
  | refine Kt_block ?_
  | refine Kr_then ?_
  | refine Kr_block ?_
  | refine Ke_here ?_
  | refine Ke_then ?_
  | refine Hid.mk ?_
  | (refine callR (widthIs _ _) ?_; rintro _ Hz ⟨rfl, hz⟩; subst Hz)
  | (refine callR (mostIs _ _) ?_; rintro _ Hz ⟨rfl, hz⟩; subst Hz)
  | (refine callR (fitsIs _ _ _) ?_; rintro _ Hz ⟨rfl, hz⟩; subst Hz)
  | (refine callR (signedIs _ _) ?_; rintro _ Hz ⟨rfl, hz⟩; subst Hz)
  | (refine callR (unsignedIs _ _) ?_; rintro _ Hz ⟨rfl, hz⟩; subst Hz)
  | (refine callR (rowIs _ _) ?_; rintro _ Hz ⟨rfl, hz⟩; subst Hz)
  | (refine callR (knownIs _ _) ?_; rintro _ Hz ⟨rfl, hz⟩; subst Hz)
  | (refine callR (isNaNIs _ _) ?_; rintro _ Hz ⟨rfl, hz⟩; subst Hz)
  | (refine callR (frombitsIs _ _) ?_; rintro _ Hz ⟨rfl, hz⟩; subst Hz)
  | refine Gs.mk (fun g => ?_) (fun g => ?_) <;> (try simp only [nm] at g)
  | refine Gr.mk (fun g => ?_) (fun g => ?_) <;> (try simp only [nm] at g)
  | (refine Run.of ?_; simp (maxSteps := 1000000) [*, DVal.row, DLook.row, DFlat.row, beq_bytes, wrap_nn])
 all_goals (refine Kx.mk ?_; refine owes_one (.inr rfl) hwf rfl ?_ ?_ ?_ ?_)
 all_goals (try simp (maxDischargeDepth := 20) [mayV, *])
 all_goals simp_all
end
end Go.Abs
