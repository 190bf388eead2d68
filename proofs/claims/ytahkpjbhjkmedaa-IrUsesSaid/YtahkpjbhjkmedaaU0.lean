import Derived.Test.YtahkpjbhjkmedaaDD
import Derived.Test.YtahkpjbhjkmedaaProg
import Derived.WideLaws
namespace Go.Abs
open Go.Proofs
set_option autoImplicit false
theorem mix : Try.prog.follows .mixedOrders = true := by kernel_rfl

@[simp] theorem Try.sz2 : szOf Try.prog 2 = some 1 := by rfl
@[simp] theorem Try.by2 : bytesOf Try.prog 2 = some 8 := by rfl
@[simp] theorem Try.agg2 : aggOf Try.prog 2 = some false := by rfl
@[simp] theorem Try.zero2 : zeroOf Try.prog 2 = some [.val (.int .i64 0)] := by rfl
@[simp] theorem Try.sz3 : szOf Try.prog 3 = some 1 := by rfl
@[simp] theorem Try.by3 : bytesOf Try.prog 3 = some 8 := by rfl
@[simp] theorem Try.agg3 : aggOf Try.prog 3 = some false := by rfl
@[simp] theorem Try.zero3 : zeroOf Try.prog 3 = some [.val (.int .i64 0)] := by rfl
@[simp] theorem Try.sz4 : szOf Try.prog 4 = some 1 := by rfl
@[simp] theorem Try.by4 : bytesOf Try.prog 4 = some 1 := by rfl
@[simp] theorem Try.agg4 : aggOf Try.prog 4 = some false := by rfl
@[simp] theorem Try.zero4 : zeroOf Try.prog 4 = some [.val (.bool false)] := by rfl
@[simp] theorem Try.sz5 : szOf Try.prog 5 = some 1 := by rfl
@[simp] theorem Try.by5 : bytesOf Try.prog 5 = some 1 := by rfl
@[simp] theorem Try.agg5 : aggOf Try.prog 5 = some false := by rfl
@[simp] theorem Try.zero5 : zeroOf Try.prog 5 = some [.val (.int .u8 0)] := by rfl
@[simp] theorem Try.sz6 : szOf Try.prog 6 = some 1 := by rfl
@[simp] theorem Try.by6 : bytesOf Try.prog 6 = some 1 := by rfl
@[simp] theorem Try.agg6 : aggOf Try.prog 6 = some false := by rfl
@[simp] theorem Try.zero6 : zeroOf Try.prog 6 = some [.val (.int .u8 0)] := by rfl
@[simp] theorem Try.sz7 : szOf Try.prog 7 = some 4 := by rfl
@[simp] theorem Try.by7 : bytesOf Try.prog 7 = some 24 := by rfl
@[simp] theorem Try.agg7 : aggOf Try.prog 7 = some true := by rfl
@[simp] theorem Try.zero7 : zeroOf Try.prog 7 = some [.val (.int .i64 0), .val (.int .i64 0), .val (.bool false), .val (.int .u8 0)] := by rfl
@[simp] theorem Try.sz8 : szOf Try.prog 8 = some 4 := by rfl
@[simp] theorem Try.by8 : bytesOf Try.prog 8 = some 24 := by rfl
@[simp] theorem Try.agg8 : aggOf Try.prog 8 = some true := by rfl
@[simp] theorem Try.zero8 : zeroOf Try.prog 8 = some [.val (.int .i64 0), .val (.int .i64 0), .val (.bool false), .val (.int .u8 0)] := by rfl
@[simp] theorem Try.sz9 : szOf Try.prog 9 = some 1 := by rfl
@[simp] theorem Try.by9 : bytesOf Try.prog 9 = some 16 := by rfl
@[simp] theorem Try.agg9 : aggOf Try.prog 9 = some false := by rfl
@[simp] theorem Try.zero9 : zeroOf Try.prog 9 = some [.val (.string ⟨#[]⟩)] := by rfl
@[simp] theorem Try.sz10 : szOf Try.prog 10 = some 1 := by rfl
@[simp] theorem Try.by10 : bytesOf Try.prog 10 = some 16 := by rfl
@[simp] theorem Try.agg10 : aggOf Try.prog 10 = some false := by rfl
@[simp] theorem Try.zero10 : zeroOf Try.prog 10 = some [.val (.string ⟨#[]⟩)] := by rfl
@[simp] theorem Try.sz11 : szOf Try.prog 11 = some 1 := by rfl
@[simp] theorem Try.by11 : bytesOf Try.prog 11 = some 16 := by rfl
@[simp] theorem Try.agg11 : aggOf Try.prog 11 = some false := by rfl
@[simp] theorem Try.zero11 : zeroOf Try.prog 11 = some [.val (.string ⟨#[]⟩)] := by rfl
@[simp] theorem Try.sz12 : szOf Try.prog 12 = some 1 := by rfl
@[simp] theorem Try.by12 : bytesOf Try.prog 12 = some 8 := by rfl
@[simp] theorem Try.agg12 : aggOf Try.prog 12 = some false := by rfl
@[simp] theorem Try.zero12 : zeroOf Try.prog 12 = some [.val (.int .u64 0)] := by rfl
@[simp] theorem Try.sz13 : szOf Try.prog 13 = some 2 := by rfl
@[simp] theorem Try.by13 : bytesOf Try.prog 13 = some 24 := by rfl
@[simp] theorem Try.agg13 : aggOf Try.prog 13 = some true := by rfl
@[simp] theorem Try.zero13 : zeroOf Try.prog 13 = some [.val (.string ⟨#[]⟩), .val (.int .u64 0)] := by rfl
@[simp] theorem Try.sz14 : szOf Try.prog 14 = some 2 := by rfl
@[simp] theorem Try.by14 : bytesOf Try.prog 14 = some 24 := by rfl
@[simp] theorem Try.agg14 : aggOf Try.prog 14 = some true := by rfl
@[simp] theorem Try.zero14 : zeroOf Try.prog 14 = some [.val (.string ⟨#[]⟩), .val (.int .u64 0)] := by rfl
@[simp] theorem Try.sz15 : szOf Try.prog 15 = some 1 := by rfl
@[simp] theorem Try.by15 : bytesOf Try.prog 15 = some 8 := by rfl
@[simp] theorem Try.agg15 : aggOf Try.prog 15 = some false := by rfl
@[simp] theorem Try.zero15 : zeroOf Try.prog 15 = some [.val (.pointer none)] := by rfl
@[simp] theorem Try.sz16 : szOf Try.prog 16 = some 1 := by rfl
@[simp] theorem Try.by16 : bytesOf Try.prog 16 = some 8 := by rfl
@[simp] theorem Try.agg16 : aggOf Try.prog 16 = some false := by rfl
@[simp] theorem Try.zero16 : zeroOf Try.prog 16 = some [.val (.pointer none)] := by rfl
@[simp] theorem Try.sz17 : szOf Try.prog 17 = some 1 := by rfl
@[simp] theorem Try.by17 : bytesOf Try.prog 17 = some 8 := by rfl
@[simp] theorem Try.agg17 : aggOf Try.prog 17 = some false := by rfl
@[simp] theorem Try.zero17 : zeroOf Try.prog 17 = some [.val (.pointer none)] := by rfl
@[simp] theorem Try.sz18 : szOf Try.prog 18 = some 1 := by rfl
@[simp] theorem Try.by18 : bytesOf Try.prog 18 = some 8 := by rfl
@[simp] theorem Try.agg18 : aggOf Try.prog 18 = some true := by rfl
@[simp] theorem Try.zero18 : zeroOf Try.prog 18 = some [.val (.pointer none)] := by rfl
@[simp] theorem Try.sz19 : szOf Try.prog 19 = some 1 := by rfl
@[simp] theorem Try.by19 : bytesOf Try.prog 19 = some 8 := by rfl
@[simp] theorem Try.agg19 : aggOf Try.prog 19 = some true := by rfl
@[simp] theorem Try.zero19 : zeroOf Try.prog 19 = some [.val (.pointer none)] := by rfl
@[simp] theorem Try.sz20 : szOf Try.prog 20 = some 1 := by rfl
@[simp] theorem Try.by20 : bytesOf Try.prog 20 = some 16 := by rfl
@[simp] theorem Try.agg20 : aggOf Try.prog 20 = some false := by rfl
@[simp] theorem Try.zero20 : zeroOf Try.prog 20 = some [.val .nilIface] := by rfl
@[simp] theorem Try.sz21 : szOf Try.prog 21 = some 1 := by rfl
@[simp] theorem Try.by21 : bytesOf Try.prog 21 = some 4 := by rfl
@[simp] theorem Try.agg21 : aggOf Try.prog 21 = some false := by rfl
@[simp] theorem Try.zero21 : zeroOf Try.prog 21 = some [.val (.int .i32 0)] := by rfl
@[simp] theorem Try.sz22 : szOf Try.prog 22 = some 1 := by rfl
@[simp] theorem Try.by22 : bytesOf Try.prog 22 = some 1 := by rfl
@[simp] theorem Try.agg22 : aggOf Try.prog 22 = some false := by rfl
@[simp] theorem Try.zero22 : zeroOf Try.prog 22 = some [.val (.int .u8 0)] := by rfl
@[simp] theorem Try.sz23 : szOf Try.prog 23 = some 1 := by rfl
@[simp] theorem Try.by23 : bytesOf Try.prog 23 = some 8 := by rfl
@[simp] theorem Try.agg23 : aggOf Try.prog 23 = some false := by rfl
@[simp] theorem Try.zero23 : zeroOf Try.prog 23 = some [.val (.int .u64 0)] := by rfl
@[simp] theorem Try.sz24 : szOf Try.prog 24 = some 3 := by rfl
@[simp] theorem Try.by24 : bytesOf Try.prog 24 = some 32 := by rfl
@[simp] theorem Try.agg24 : aggOf Try.prog 24 = some true := by rfl
@[simp] theorem Try.zero24 : zeroOf Try.prog 24 = some [.val (.int .u8 0), .val (.int .u64 0), .val (.string ⟨#[]⟩)] := by rfl
@[simp] theorem Try.sz25 : szOf Try.prog 25 = some 3 := by rfl
@[simp] theorem Try.by25 : bytesOf Try.prog 25 = some 32 := by rfl
@[simp] theorem Try.agg25 : aggOf Try.prog 25 = some true := by rfl
@[simp] theorem Try.zero25 : zeroOf Try.prog 25 = some [.val (.int .u8 0), .val (.int .u64 0), .val (.string ⟨#[]⟩)] := by rfl
@[simp] theorem Try.sz26 : szOf Try.prog 26 = some 10 := by rfl
@[simp] theorem Try.by26 : bytesOf Try.prog 26 = some 88 := by rfl
@[simp] theorem Try.agg26 : aggOf Try.prog 26 = some true := by rfl
@[simp] theorem Try.zero26 : zeroOf Try.prog 26 = some [.val (.int .i64 0), .val (.int .i64 0), .val (.int .i64 0), .val (.int .i64 0), .val (.int .i64 0), .val (.int .i64 0), .val (.int .i64 0), .val (.int .u8 0), .val (.int .u64 0), .val (.string ⟨#[]⟩)] := by rfl
@[simp] theorem Try.sz27 : szOf Try.prog 27 = some 10 := by rfl
@[simp] theorem Try.by27 : bytesOf Try.prog 27 = some 88 := by rfl
@[simp] theorem Try.agg27 : aggOf Try.prog 27 = some true := by rfl
@[simp] theorem Try.zero27 : zeroOf Try.prog 27 = some [.val (.int .i64 0), .val (.int .i64 0), .val (.int .i64 0), .val (.int .i64 0), .val (.int .i64 0), .val (.int .i64 0), .val (.int .i64 0), .val (.int .u8 0), .val (.int .u64 0), .val (.string ⟨#[]⟩)] := by rfl
@[simp] theorem Try.sz28 : szOf Try.prog 28 = some 1 := by rfl
@[simp] theorem Try.by28 : bytesOf Try.prog 28 = some 24 := by rfl
@[simp] theorem Try.agg28 : aggOf Try.prog 28 = some false := by rfl
@[simp] theorem Try.zero28 : zeroOf Try.prog 28 = some [.val (.slice none 0 0)] := by rfl
@[simp] theorem Try.sz32 : szOf Try.prog 32 = some 1 := by rfl
@[simp] theorem Try.by32 : bytesOf Try.prog 32 = some 8 := by rfl
@[simp] theorem Try.agg32 : aggOf Try.prog 32 = some false := by rfl
@[simp] theorem Try.zero32 : zeroOf Try.prog 32 = some [.val (.int .u64 0)] := by rfl
@[simp] theorem Try.sz40 : szOf Try.prog 40 = some 1 := by rfl
@[simp] theorem Try.by40 : bytesOf Try.prog 40 = some 8 := by rfl
@[simp] theorem Try.agg40 : aggOf Try.prog 40 = some false := by rfl
@[simp] theorem Try.zero40 : zeroOf Try.prog 40 = some [.val (.int .i64 0)] := by rfl
@[simp] theorem Try.sz49 : szOf Try.prog 49 = some 1 := by rfl
@[simp] theorem Try.by49 : bytesOf Try.prog 49 = some 4 := by rfl
@[simp] theorem Try.agg49 : aggOf Try.prog 49 = some false := by rfl
@[simp] theorem Try.zero49 : zeroOf Try.prog 49 = some [.val (.int .u32 0)] := by rfl
@[simp] theorem Try.sz51 : szOf Try.prog 51 = some 1 := by rfl
@[simp] theorem Try.by51 : bytesOf Try.prog 51 = some 8 := by rfl
@[simp] theorem Try.agg51 : aggOf Try.prog 51 = some false := by rfl
@[simp] theorem Try.zero51 : zeroOf Try.prog 51 = some [.val (.int .u64 0)] := by rfl
@[simp] theorem Try.sz55 : szOf Try.prog 55 = some 1 := by rfl
@[simp] theorem Try.by55 : bytesOf Try.prog 55 = some 8 := by rfl
@[simp] theorem Try.agg55 : aggOf Try.prog 55 = some false := by rfl
@[simp] theorem Try.zero55 : zeroOf Try.prog 55 = some [.val (.pointer none)] := by rfl
@[simp] theorem Try.sz58 : szOf Try.prog 58 = some 1 := by rfl
@[simp] theorem Try.by58 : bytesOf Try.prog 58 = some 8 := by rfl
@[simp] theorem Try.agg58 : aggOf Try.prog 58 = some false := by rfl
@[simp] theorem Try.zero58 : zeroOf Try.prog 58 = some [.val (.pointer none)] := by rfl
@[simp] theorem Try.sz62 : szOf Try.prog 62 = some 4 := by rfl
@[simp] theorem Try.by62 : bytesOf Try.prog 62 = some 40 := by rfl
@[simp] theorem Try.agg62 : aggOf Try.prog 62 = some true := by rfl
@[simp] theorem Try.zero62 : zeroOf Try.prog 62 = some [.val (.pointer none), .val (.pointer none), .val (.pointer none), .val (.string ⟨#[]⟩)] := by rfl
@[simp] theorem Try.sz63 : szOf Try.prog 63 = some 4 := by rfl
@[simp] theorem Try.by63 : bytesOf Try.prog 63 = some 40 := by rfl
@[simp] theorem Try.agg63 : aggOf Try.prog 63 = some true := by rfl
@[simp] theorem Try.zero63 : zeroOf Try.prog 63 = some [.val (.pointer none), .val (.pointer none), .val (.pointer none), .val (.string ⟨#[]⟩)] := by rfl
@[simp] theorem Try.sz64 : szOf Try.prog 64 = some 0 := by rfl
@[simp] theorem Try.by64 : bytesOf Try.prog 64 = some 0 := by rfl
@[simp] theorem Try.agg64 : aggOf Try.prog 64 = some true := by rfl
@[simp] theorem Try.zero64 : zeroOf Try.prog 64 = some [] := by rfl
@[simp] theorem Try.sz65 : szOf Try.prog 65 = some 0 := by rfl
@[simp] theorem Try.by65 : bytesOf Try.prog 65 = some 0 := by rfl
@[simp] theorem Try.agg65 : aggOf Try.prog 65 = some true := by rfl
@[simp] theorem Try.zero65 : zeroOf Try.prog 65 = some [] := by rfl
@[simp] theorem Try.sz66 : szOf Try.prog 66 = some 0 := by rfl
@[simp] theorem Try.by66 : bytesOf Try.prog 66 = some 0 := by rfl
@[simp] theorem Try.agg66 : aggOf Try.prog 66 = some true := by rfl
@[simp] theorem Try.zero66 : zeroOf Try.prog 66 = some [] := by rfl
@[simp] theorem Try.sz68 : szOf Try.prog 68 = some 1 := by rfl
@[simp] theorem Try.by68 : bytesOf Try.prog 68 = some 1 := by rfl
@[simp] theorem Try.agg68 : aggOf Try.prog 68 = some false := by rfl
@[simp] theorem Try.zero68 : zeroOf Try.prog 68 = some [.val (.int .u8 0)] := by rfl
@[simp] theorem Try.sz69 : szOf Try.prog 69 = some 1 := by rfl
@[simp] theorem Try.by69 : bytesOf Try.prog 69 = some 1 := by rfl
@[simp] theorem Try.agg69 : aggOf Try.prog 69 = some false := by rfl
@[simp] theorem Try.zero69 : zeroOf Try.prog 69 = some [.val (.int .u8 0)] := by rfl
@[simp] theorem Try.sz71 : szOf Try.prog 71 = some 1 := by rfl
@[simp] theorem Try.by71 : bytesOf Try.prog 71 = some 8 := by rfl
@[simp] theorem Try.agg71 : aggOf Try.prog 71 = some false := by rfl
@[simp] theorem Try.zero71 : zeroOf Try.prog 71 = some [.val (.pointer none)] := by rfl
@[simp] theorem Try.sz72 : szOf Try.prog 72 = some 1 := by rfl
@[simp] theorem Try.by72 : bytesOf Try.prog 72 = some 4 := by rfl
@[simp] theorem Try.agg72 : aggOf Try.prog 72 = some false := by rfl
@[simp] theorem Try.zero72 : zeroOf Try.prog 72 = some [.val (.int .i32 0)] := by rfl
@[simp] theorem Try.sz73 : szOf Try.prog 73 = some 1 := by rfl
@[simp] theorem Try.by73 : bytesOf Try.prog 73 = some 4 := by rfl
@[simp] theorem Try.agg73 : aggOf Try.prog 73 = some false := by rfl
@[simp] theorem Try.zero73 : zeroOf Try.prog 73 = some [.val (.int .i32 0)] := by rfl
@[simp] theorem Try.sz74 : szOf Try.prog 74 = some 11 := by rfl
@[simp] theorem Try.by74 : bytesOf Try.prog 74 = some 48 := by rfl
@[simp] theorem Try.agg74 : aggOf Try.prog 74 = some true := by rfl
@[simp] theorem Try.zero74 : zeroOf Try.prog 74 = some [.val (.int .u64 0), .val (.int .u64 0), .val (.int .u32 0), .val (.int .u8 0), .val (.int .u8 0), .val (.int .u8 0), .val (.int .u8 0), .val .nilFunc, .val (.pointer none), .val (.int .i32 0), .val (.int .i32 0)] := by rfl
@[simp] theorem Try.sz75 : szOf Try.prog 75 = some 11 := by rfl
@[simp] theorem Try.by75 : bytesOf Try.prog 75 = some 48 := by rfl
@[simp] theorem Try.agg75 : aggOf Try.prog 75 = some true := by rfl
@[simp] theorem Try.zero75 : zeroOf Try.prog 75 = some [.val (.int .u64 0), .val (.int .u64 0), .val (.int .u32 0), .val (.int .u8 0), .val (.int .u8 0), .val (.int .u8 0), .val (.int .u8 0), .val .nilFunc, .val (.pointer none), .val (.int .i32 0), .val (.int .i32 0)] := by rfl
@[simp] theorem Try.sz76 : szOf Try.prog 76 = some 1 := by rfl
@[simp] theorem Try.by76 : bytesOf Try.prog 76 = some 8 := by rfl
@[simp] theorem Try.agg76 : aggOf Try.prog 76 = some false := by rfl
@[simp] theorem Try.zero76 : zeroOf Try.prog 76 = some [.val (.pointer none)] := by rfl
end Go.Abs
