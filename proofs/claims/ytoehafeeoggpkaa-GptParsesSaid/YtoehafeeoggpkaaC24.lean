import Derived.Test.YtoehafeeoggpkaaProg
import Derived.Test.YtoehafeeoggpkaaAM28
set_option maxRecDepth 100000
/-! The compiled functions; written by a program. -/
namespace Go.Proofs.Ytoehafeeoggpkaa.AMC
open Go Go.AM Go.Proofs
/-- fettle/fettlelaw14.GptChecks -/
def a5 : AFunc := ⟨1, [.tmp 2],
 (.both (.seq [⟨(some 1), none, .plain (.box (.tmp 0))⟩,
 ⟨(some 2), none, .plain (.mov (.const (.bool false)))⟩])
 (.both (.both (.seq [⟨(some 3), none, .plain (.load (some 22) (.tmp 1))⟩,
 ⟨(some 4), none, .call 15 [(.tmp 3)]⟩,
 ⟨(some 5), none, .plain (.un .not (.tmp 4))⟩])
 (.cond (.tmp 5)
 (.both (.seq [⟨(some 6), none, .call 16 []⟩,
 ⟨(some 2), none, .plain (.mov (.tmp 6))⟩])
 .ret)
 .skip))
 (.both (.draw 0 [⟨0, .chain, 0, ⟨(some 7), none, .call 16 []⟩, [], []⟩,
 ⟨1, .pure, 0, ⟨(some 8), none, .plain (.mov (.tmp 7))⟩, [], []⟩,
 ⟨2, .read, 0, ⟨(some 9), (some (8, true)), .plain (.load (some 22) (.tmp 1))⟩, [], []⟩,
 ⟨4, .read, 0, ⟨(some 11), (some (8, true)), .plain (.load (some 22) (.tmp 1))⟩, [], []⟩,
 ⟨3, .chain, 0, ⟨(some 10), (some (8, true)), .call 17 [(.tmp 9)]⟩, [4], []⟩,
 ⟨5, .chain, 0, ⟨(some 12), (some (8, true)), .call 19 [(.tmp 11)]⟩, [], []⟩,
 ⟨6, .chain, 0, ⟨(some 13), (some (8, true)), .call 18 [(.tmp 12)]⟩, [], []⟩,
 ⟨7, .pure, 0, ⟨(some 14), (some (8, true)), .plain (.bin .eql (.tmp 10) (.tmp 13))⟩, [], []⟩,
 ⟨8, .pure, 0, ⟨(some 15), none, .plain (.pick (.tmp 8) (.tmp 14) (.const (.bool false)))⟩, [], []⟩,
 ⟨9, .pure, 0, ⟨(some 2), none, .plain (.mov (.tmp 15))⟩, [], []⟩])
 .ret)))⟩
/-- fettle/fettlelaw14.GptParses -/
def a6 : AFunc := ⟨2, [.tmp 4],
 (.both (.seq [⟨(some 2), none, .plain (.box (.tmp 0))⟩,
 ⟨(some 4), none, .plain (.mov (.const (.bool false)))⟩])
 (.both (.seq [⟨(some 12), none, .plain (.load (some 22) (.tmp 2))⟩,
 ⟨(some 13), none, .plain (.mov (.tmp 1))⟩,
 ⟨(some 14), none, .call 20 [(.tmp 12), (.tmp 13)]⟩,
 ⟨(some 11), none, .plain (.mov (.tmp 14))⟩,
 ⟨(some 15), none, .plain (.extract (.tmp 11) 0)⟩,
 ⟨(some 16), none, .plain (.extract (.tmp 11) 1)⟩,
 ⟨(some 5), none, .plain (.mov (.tmp 15))⟩,
 ⟨(some 6), none, .plain (.mov (.tmp 16))⟩])
 (.both (.both (.seq [⟨(some 17), none, .plain (.mov (.tmp 6))⟩,
 ⟨(some 18), none, .plain (.un .not (.tmp 17))⟩])
 (.cond (.tmp 18)
 (.both (.seq [⟨(some 19), none, .call 16 []⟩,
 ⟨(some 4), none, .plain (.mov (.tmp 19))⟩])
 .ret)
 .skip))
 (.both (.seq [⟨(some 21), none, .plain (.mov (.tmp 5))⟩,
 ⟨(some 22), none, .plain (.iface 42 (.tmp 21))⟩,
 ⟨(some 23), none, .call 21 [(.tmp 22)]⟩,
 ⟨(some 20), none, .plain (.mov (.tmp 23))⟩,
 ⟨(some 24), none, .plain (.extract (.tmp 20) 0)⟩,
 ⟨(some 25), none, .plain (.extract (.tmp 20) 1)⟩,
 ⟨(some 7), none, .plain (.alloc [(.int .i64 0), (.int .i64 0), (.int .i64 0), (.int .u8 0), (.int .u8 0), (.int .u8 0), (.int .u8 0), (.int .u8 0), (.int .u8 0), (.int .u8 0), (.int .u8 0), (.int .u8 0), (.int .u8 0), (.int .u8 0), (.int .u8 0), (.int .u8 0), (.int .u8 0), (.int .u8 0), (.int .u8 0), (.slice none 0 0), (.int .i64 0), (.int .i64 0)])⟩,
 ⟨none, none, .plain (.store 22 (.tmp 7) (.tmp 24))⟩,
 ⟨(some 8), none, .plain (.mov (.tmp 25))⟩])
 (.both (.seq [⟨(some 27), none, .plain (.mov (.tmp 5))⟩,
 ⟨(some 28), none, .call 22 [(.tmp 27)]⟩,
 ⟨(some 26), none, .plain (.mov (.tmp 28))⟩,
 ⟨(some 29), none, .plain (.extract (.tmp 26) 0)⟩,
 ⟨(some 30), none, .plain (.extract (.tmp 26) 1)⟩,
 ⟨(some 9), none, .plain (.alloc [(.int .i64 0), (.int .i64 0), (.int .i64 0), (.slice none 0 0), (.slice none 0 0), (.int .i64 0), (.int .i64 0)])⟩,
 ⟨none, none, .plain (.store 7 (.tmp 9) (.tmp 29))⟩,
 ⟨(some 10), none, .plain (.mov (.tmp 30))⟩])
 (.both (.draw 0 [⟨0, .chain, 0, ⟨(some 31), none, .call 16 []⟩, [], []⟩,
 ⟨1, .pure, 0, ⟨(some 32), none, .plain (.mov (.tmp 31))⟩, [], []⟩,
 ⟨2, .pure, 0, ⟨(some 33), (some (32, true)), .plain (.mov (.tmp 8))⟩, [], []⟩,
 ⟨3, .pure, 0, ⟨(some 34), (some (32, true)), .plain (.mov (.tmp 10))⟩, [], []⟩,
 ⟨4, .pure, 0, ⟨(some 35), (some (32, true)), .plain (.bin .eql (.tmp 33) (.tmp 34))⟩, [], []⟩,
 ⟨5, .pure, 0, ⟨(some 36), none, .plain (.pick (.tmp 32) (.tmp 35) (.const (.bool false)))⟩, [], []⟩,
 ⟨6, .pure, 0, ⟨(some 37), none, .plain (.mov (.tmp 36))⟩, [], []⟩,
 ⟨7, .read, 0, ⟨(some 38), (some (37, true)), .plain (.load (some 22) (.tmp 7))⟩, [], []⟩,
 ⟨9, .read, 0, ⟨(some 40), (some (37, true)), .plain (.load (some 7) (.tmp 9))⟩, [], []⟩,
 ⟨8, .chain, 0, ⟨(some 39), (some (37, true)), .call 19 [(.tmp 38)]⟩, [9], []⟩,
 ⟨10, .chain, 0, ⟨(some 41), (some (37, true)), .call 23 [(.tmp 39), (.tmp 40)]⟩, [], []⟩,
 ⟨11, .pure, 0, ⟨(some 42), none, .plain (.pick (.tmp 37) (.tmp 41) (.const (.bool false)))⟩, [], []⟩,
 ⟨12, .pure, 0, ⟨(some 4), none, .plain (.mov (.tmp 42))⟩, [], []⟩])
 .ret))))))⟩
/-- fettle/fettlelaw14.GptBytes -/
def a7 : AFunc := ⟨1, [.tmp 2],
 (.both (.seq [⟨(some 2), none, .plain (.mov (.const (.bool false)))⟩])
 (.both (.both (.seq [⟨(some 9), none, .plain (.mov (.tmp 0))⟩,
 ⟨(some 10), none, .plain (.len .sl (.tmp 9))⟩,
 ⟨(some 11), none, .plain (.bin .gtr (.tmp 10) (.const (.int .i64 20000)))⟩])
 (.cond (.tmp 11)
 (.both (.seq [⟨(some 12), none, .call 16 []⟩,
 ⟨(some 2), none, .plain (.mov (.tmp 12))⟩])
 .ret)
 .skip))
 (.both (.seq [⟨(some 14), none, .plain (.mov (.tmp 0))⟩,
 ⟨(some 15), none, .plain (.iface 42 (.tmp 14))⟩,
 ⟨(some 16), none, .call 21 [(.tmp 15)]⟩,
 ⟨(some 13), none, .plain (.mov (.tmp 16))⟩,
 ⟨(some 17), none, .plain (.extract (.tmp 13) 0)⟩,
 ⟨(some 18), none, .plain (.extract (.tmp 13) 1)⟩,
 ⟨(some 3), none, .plain (.alloc [(.int .i64 0), (.int .i64 0), (.int .i64 0), (.int .u8 0), (.int .u8 0), (.int .u8 0), (.int .u8 0), (.int .u8 0), (.int .u8 0), (.int .u8 0), (.int .u8 0), (.int .u8 0), (.int .u8 0), (.int .u8 0), (.int .u8 0), (.int .u8 0), (.int .u8 0), (.int .u8 0), (.int .u8 0), (.slice none 0 0), (.int .i64 0), (.int .i64 0)])⟩,
 ⟨none, none, .plain (.store 22 (.tmp 3) (.tmp 17))⟩,
 ⟨(some 4), none, .plain (.mov (.tmp 18))⟩])
 (.both (.seq [⟨(some 20), none, .plain (.mov (.tmp 0))⟩,
 ⟨(some 21), none, .call 22 [(.tmp 20)]⟩,
 ⟨(some 19), none, .plain (.mov (.tmp 21))⟩,
 ⟨(some 22), none, .plain (.extract (.tmp 19) 0)⟩,
 ⟨(some 23), none, .plain (.extract (.tmp 19) 1)⟩,
 ⟨(some 5), none, .plain (.alloc [(.int .i64 0), (.int .i64 0), (.int .i64 0), (.slice none 0 0), (.slice none 0 0), (.int .i64 0), (.int .i64 0)])⟩,
 ⟨none, none, .plain (.store 7 (.tmp 5) (.tmp 22))⟩,
 ⟨(some 6), none, .plain (.mov (.tmp 23))⟩])
 (.both (.seq [⟨(some 25), none, .call 21 [(.const .nilIface)]⟩,
 ⟨(some 24), none, .plain (.mov (.tmp 25))⟩,
 ⟨(some 26), none, .plain (.extract (.tmp 24) 0)⟩,
 ⟨(some 27), none, .plain (.extract (.tmp 24) 1)⟩,
 ⟨(some 7), none, .plain (.alloc [(.int .i64 0), (.int .i64 0), (.int .i64 0), (.int .u8 0), (.int .u8 0), (.int .u8 0), (.int .u8 0), (.int .u8 0), (.int .u8 0), (.int .u8 0), (.int .u8 0), (.int .u8 0), (.int .u8 0), (.int .u8 0), (.int .u8 0), (.int .u8 0), (.int .u8 0), (.int .u8 0), (.int .u8 0), (.slice none 0 0), (.int .i64 0), (.int .i64 0)])⟩,
 ⟨none, none, .plain (.store 22 (.tmp 7) (.tmp 26))⟩,
 ⟨(some 8), none, .plain (.mov (.tmp 27))⟩])
 (.both (.draw 0 [⟨0, .chain, 0, ⟨(some 28), none, .call 16 []⟩, [], []⟩,
 ⟨1, .pure, 0, ⟨(some 29), none, .plain (.mov (.tmp 28))⟩, [], []⟩,
 ⟨2, .pure, 0, ⟨(some 30), (some (29, true)), .plain (.mov (.tmp 4))⟩, [], []⟩,
 ⟨3, .pure, 0, ⟨(some 31), (some (29, true)), .plain (.mov (.tmp 6))⟩, [], []⟩,
 ⟨4, .pure, 0, ⟨(some 32), (some (29, true)), .plain (.bin .eql (.tmp 30) (.tmp 31))⟩, [], []⟩,
 ⟨5, .pure, 0, ⟨(some 33), none, .plain (.pick (.tmp 29) (.tmp 32) (.const (.bool false)))⟩, [], []⟩,
 ⟨6, .pure, 0, ⟨(some 34), none, .plain (.mov (.tmp 33))⟩, [], []⟩,
 ⟨7, .read, 0, ⟨(some 35), (some (34, true)), .plain (.load (some 22) (.tmp 3))⟩, [], []⟩,
 ⟨9, .read, 0, ⟨(some 37), (some (34, true)), .plain (.load (some 7) (.tmp 5))⟩, [], []⟩,
 ⟨8, .chain, 0, ⟨(some 36), (some (34, true)), .call 19 [(.tmp 35)]⟩, [9], []⟩,
 ⟨10, .chain, 0, ⟨(some 38), (some (34, true)), .call 23 [(.tmp 36), (.tmp 37)]⟩, [], []⟩,
 ⟨11, .pure, 0, ⟨(some 39), none, .plain (.pick (.tmp 34) (.tmp 38) (.const (.bool false)))⟩, [], []⟩,
 ⟨12, .pure, 0, ⟨(some 40), none, .plain (.mov (.tmp 39))⟩, [], []⟩,
 ⟨13, .pure, 0, ⟨(some 41), (some (40, true)), .plain (.mov (.tmp 8))⟩, [], []⟩,
 ⟨14, .pure, 0, ⟨(some 42), (some (40, true)), .plain (.bin .eql (.tmp 41) (.const (.int .i64 2)))⟩, [], []⟩,
 ⟨15, .pure, 0, ⟨(some 43), none, .plain (.pick (.tmp 40) (.tmp 42) (.const (.bool false)))⟩, [], []⟩,
 ⟨16, .pure, 0, ⟨(some 2), none, .plain (.mov (.tmp 43))⟩, [], []⟩])
 .ret))))))⟩
/-- fettle/fettlelaw14.light -/
def a15 : AFunc := ⟨1, [.tmp 2],
 (.both (.seq [⟨(some 1), none, .plain (.box (.tmp 0))⟩,
 ⟨(some 2), none, .plain (.mov (.const (.bool false)))⟩])
 (.both (.seq [⟨(some 3), none, .plain (.faddr 19 (.tmp 1))⟩,
 ⟨(some 4), none, .plain (.load none (.tmp 3))⟩,
 ⟨(some 5), none, .plain (.len .sl (.tmp 4))⟩,
 ⟨(some 6), none, .plain (.bin .leq (.tmp 5) (.const (.int .i64 140)))⟩,
 ⟨(some 2), none, .plain (.mov (.tmp 6))⟩])
 .ret))⟩
/-- fettle/fettlelaw14.laid -/
def a16 : AFunc := ⟨0, [.tmp 0],
 (.both (.seq [⟨(some 0), none, .plain (.mov (.const (.bool false)))⟩])
 (.both (.seq [⟨(some 4), none, .call 25 [(.const (.int .i64 32768))]⟩,
 ⟨(some 5), none, .call 40 []⟩,
 ⟨(some 6), none, .call 19 [(.tmp 5)]⟩,
 ⟨(some 7), none, .call 26 [(.tmp 4), (.tmp 6)]⟩,
 ⟨(some 1), none, .plain (.mov (.tmp 7))⟩])
 (.both (.seq [⟨(some 9), none, .plain (.mov (.tmp 1))⟩,
 ⟨(some 10), none, .plain (.iface 42 (.tmp 9))⟩,
 ⟨(some 11), none, .call 21 [(.tmp 10)]⟩,
 ⟨(some 8), none, .plain (.mov (.tmp 11))⟩,
 ⟨(some 12), none, .plain (.extract (.tmp 8) 0)⟩,
 ⟨(some 13), none, .plain (.extract (.tmp 8) 1)⟩,
 ⟨(some 2), none, .plain (.alloc [(.int .i64 0), (.int .i64 0), (.int .i64 0), (.int .u8 0), (.int .u8 0), (.int .u8 0), (.int .u8 0), (.int .u8 0), (.int .u8 0), (.int .u8 0), (.int .u8 0), (.int .u8 0), (.int .u8 0), (.int .u8 0), (.int .u8 0), (.int .u8 0), (.int .u8 0), (.int .u8 0), (.int .u8 0), (.slice none 0 0), (.int .i64 0), (.int .i64 0)])⟩,
 ⟨none, none, .plain (.store 22 (.tmp 2) (.tmp 12))⟩,
 ⟨(some 3), none, .plain (.mov (.tmp 13))⟩])
 (.both (.seq [⟨(some 14), none, .plain (.mov (.tmp 3))⟩,
 ⟨(some 15), none, .plain (.bin .eql (.tmp 14) (.const (.int .i64 0)))⟩,
 ⟨(some 16), none, .plain (.mov (.tmp 15))⟩,
 ⟨(some 17), (some (16, true)), .plain (.load (some 22) (.tmp 2))⟩,
 ⟨(some 18), (some (16, true)), .call 41 [(.tmp 17)]⟩,
 ⟨(some 19), (some (16, true)), .plain (.len .sl (.tmp 18))⟩,
 ⟨(some 20), (some (16, true)), .plain (.bin .eql (.tmp 19) (.const (.int .i64 1)))⟩,
 ⟨(some 21), none, .plain (.pick (.tmp 16) (.tmp 20) (.const (.bool false)))⟩,
 ⟨(some 22), none, .plain (.mov (.tmp 21))⟩,
 ⟨(some 23), (some (22, true)), .plain (.load (some 22) (.tmp 2))⟩,
 ⟨(some 24), (some (22, true)), .call 41 [(.tmp 23)]⟩,
 ⟨(some 25), (some (22, true)), .plain (.iaddr none 4 (.tmp 24) (.const (.int .i64 0)))⟩,
 ⟨(some 26), (some (22, true)), .plain (.faddr 0 (.tmp 25))⟩,
 ⟨(some 27), (some (22, true)), .plain (.load (some 2) (.tmp 26))⟩,
 ⟨(some 28), (some (22, true)), .plain (.build (.str [(.int .i64 0), (.int .i64 0)] [(0, 1), (1, 1)]) [(0, (.const (.int .i64 5120))), (1, (.const (.int .i64 10752)))])⟩,
 ⟨(some 29), (some (22, true)), .plain (.eqA false [(0, .int), (1, .int)] (.tmp 27) (.tmp 28))⟩,
 ⟨(some 30), none, .plain (.pick (.tmp 22) (.tmp 29) (.const (.bool false)))⟩,
 ⟨(some 0), none, .plain (.mov (.tmp 30))⟩])
 .ret))))⟩
/-- (fettle/gpt.Table).Check -/
def a17 : AFunc := ⟨1, [.tmp 2],
 (.both (.seq [⟨(some 1), none, .plain (.box (.tmp 0))⟩,
 ⟨(some 2), none, .plain (.mov (.const (.int .i64 0)))⟩])
 (.both (.seq [⟨(some 7), none, .plain (.faddr 19 (.tmp 1))⟩,
 ⟨(some 8), none, .plain (.load none (.tmp 7))⟩,
 ⟨(some 9), none, .plain (.len .sl (.tmp 8))⟩,
 ⟨(some 3), none, .plain (.mov (.tmp 9))⟩])
 (.both (.block 0 (.both (.seq [⟨(some 11), none, .plain (.faddr 0 (.tmp 1))⟩,
 ⟨(some 12), none, .plain (.load none (.tmp 11))⟩,
 ⟨(some 13), none, .plain (.bin .lss (.tmp 12) (.const (.int .i64 6)))⟩,
 ⟨(some 14), none, .plain (.mov (.tmp 13))⟩,
 ⟨(some 15), (some (14, false)), .plain (.faddr 0 (.tmp 1))⟩,
 ⟨(some 16), (some (14, false)), .plain (.load none (.tmp 15))⟩,
 ⟨(some 17), (some (14, false)), .plain (.bin .gtr (.tmp 16) (.const (.int .i64 32768)))⟩,
 ⟨(some 18), none, .plain (.pick (.tmp 14) (.const (.bool true)) (.tmp 17))⟩,
 ⟨(some 19), none, .plain (.mov (.tmp 18))⟩,
 ⟨(some 20), (some (19, false)), .plain (.mov (.tmp 3))⟩,
 ⟨(some 21), (some (19, false)), .plain (.bin .lss (.tmp 20) (.const (.int .i64 1)))⟩,
 ⟨(some 22), none, .plain (.pick (.tmp 19) (.const (.bool true)) (.tmp 21))⟩,
 ⟨(some 23), none, .plain (.mov (.tmp 22))⟩,
 ⟨(some 24), (some (23, false)), .plain (.mov (.tmp 3))⟩,
 ⟨(some 25), (some (23, false)), .plain (.bin .gtr (.tmp 24) (.const (.int .i64 128)))⟩,
 ⟨(some 26), none, .plain (.pick (.tmp 23) (.const (.bool true)) (.tmp 25))⟩,
 ⟨(some 10), none, .plain (.mov (.tmp 26))⟩])
 (.cond (.tmp 10)
 (.both (.seq [⟨(some 2), none, .plain (.mov (.const (.int .i64 11)))⟩])
 .ret)
 (.both (.draw 0 [⟨0, .pure, 0, ⟨(some 28), none, .plain (.faddr 20 (.tmp 1))⟩, [], []⟩,
 ⟨1, .read, 0, ⟨(some 29), none, .plain (.load none (.tmp 28))⟩, [], []⟩,
 ⟨2, .pure, 0, ⟨(some 30), none, .plain (.bin .lss (.tmp 29) (.const (.int .i64 2)))⟩, [], []⟩,
 ⟨3, .pure, 0, ⟨(some 31), none, .plain (.mov (.tmp 30))⟩, [], []⟩,
 ⟨4, .pure, 0, ⟨(some 32), (some (31, false)), .plain (.faddr 20 (.tmp 1))⟩, [], []⟩,
 ⟨5, .read, 0, ⟨(some 33), (some (31, false)), .plain (.load none (.tmp 32))⟩, [], []⟩,
 ⟨6, .pure, 0, ⟨(some 34), (some (31, false)), .plain (.faddr 0 (.tmp 1))⟩, [], []⟩,
 ⟨7, .read, 0, ⟨(some 35), (some (31, false)), .plain (.load none (.tmp 34))⟩, [], []⟩,
 ⟨8, .pure, 0, ⟨(some 36), (some (31, false)), .plain (.bin .sub (.tmp 35) (.const (.int .i64 1)))⟩, [], []⟩,
 ⟨9, .read, 0, ⟨(some 37), (some (31, false)), .plain (.load (some 22) (.tmp 1))⟩, [], []⟩,
 ⟨10, .chain, 0, ⟨(some 38), (some (31, false)), .call 42 [(.tmp 37)]⟩, [7, 5], []⟩,
 ⟨11, .pure, 0, ⟨(some 39), (some (31, false)), .plain (.bin .sub (.tmp 36) (.tmp 38))⟩, [], []⟩,
 ⟨12, .pure, 0, ⟨(some 40), (some (31, false)), .plain (.bin .gtr (.tmp 33) (.tmp 39))⟩, [], []⟩,
 ⟨13, .pure, 0, ⟨(some 41), none, .plain (.pick (.tmp 31) (.const (.bool true)) (.tmp 40))⟩, [], []⟩,
 ⟨14, .pure, 0, ⟨(some 42), none, .plain (.mov (.tmp 41))⟩, [], []⟩,
 ⟨15, .pure, 0, ⟨(some 43), (some (42, false)), .plain (.faddr 1 (.tmp 1))⟩, [], []⟩,
 ⟨16, .read, 0, ⟨(some 44), (some (42, false)), .plain (.load none (.tmp 43))⟩, [], []⟩,
 ⟨17, .pure, 0, ⟨(some 45), (some (42, false)), .plain (.faddr 20 (.tmp 1))⟩, [], []⟩,
 ⟨18, .read, 0, ⟨(some 46), (some (42, false)), .plain (.load none (.tmp 45))⟩, [], []⟩,
 ⟨19, .read, 0, ⟨(some 47), (some (42, false)), .plain (.load (some 22) (.tmp 1))⟩, [], []⟩,
 ⟨20, .chain, 0, ⟨(some 48), (some (42, false)), .call 42 [(.tmp 47)]⟩, [18, 16], []⟩,
 ⟨21, .pure, 0, ⟨(some 49), (some (42, false)), .plain (.bin .add (.tmp 46) (.tmp 48))⟩, [], []⟩,
 ⟨22, .pure, 0, ⟨(some 50), (some (42, false)), .plain (.bin .lss (.tmp 44) (.tmp 49))⟩, [], []⟩,
 ⟨23, .pure, 0, ⟨(some 51), none, .plain (.pick (.tmp 42) (.const (.bool true)) (.tmp 50))⟩, [], []⟩,
 ⟨24, .pure, 0, ⟨(some 52), none, .plain (.mov (.tmp 51))⟩, [], []⟩,
 ⟨25, .pure, 0, ⟨(some 53), (some (52, false)), .plain (.faddr 1 (.tmp 1))⟩, [], []⟩,
 ⟨26, .read, 0, ⟨(some 54), (some (52, false)), .plain (.load none (.tmp 53))⟩, [], []⟩,
 ⟨27, .pure, 0, ⟨(some 55), (some (52, false)), .plain (.faddr 0 (.tmp 1))⟩, [], []⟩,
 ⟨28, .read, 0, ⟨(some 56), (some (52, false)), .plain (.load none (.tmp 55))⟩, [], []⟩,
 ⟨29, .pure, 0, ⟨(some 57), (some (52, false)), .plain (.bin .sub (.tmp 56) (.const (.int .i64 1)))⟩, [], []⟩,
 ⟨30, .pure, 0, ⟨(some 58), (some (52, false)), .plain (.bin .gtr (.tmp 54) (.tmp 57))⟩, [], []⟩,
 ⟨31, .pure, 0, ⟨(some 59), none, .plain (.pick (.tmp 52) (.const (.bool true)) (.tmp 58))⟩, [], []⟩,
 ⟨32, .pure, 0, ⟨(some 27), none, .plain (.mov (.tmp 59))⟩, [], []⟩])
 (.cond (.tmp 27)
 (.both (.seq [⟨(some 2), none, .plain (.mov (.const (.int .i64 4)))⟩])
 .ret)
 (.both (.draw 0 [⟨0, .pure, 0, ⟨(some 61), none, .plain (.faddr 2 (.tmp 1))⟩, [], []⟩,
 ⟨1, .read, 0, ⟨(some 62), none, .plain (.load none (.tmp 61))⟩, [], []⟩,
 ⟨2, .pure, 0, ⟨(some 63), none, .plain (.faddr 1 (.tmp 1))⟩, [], []⟩,
 ⟨3, .read, 0, ⟨(some 64), none, .plain (.load none (.tmp 63))⟩, [], []⟩,
 ⟨4, .pure, 0, ⟨(some 65), none, .plain (.bin .sub (.tmp 64) (.const (.int .i64 1)))⟩, [], []⟩,
 ⟨5, .pure, 0, ⟨(some 66), none, .plain (.bin .lss (.tmp 62) (.tmp 65))⟩, [], []⟩,
 ⟨6, .pure, 0, ⟨(some 67), none, .plain (.mov (.tmp 66))⟩, [], []⟩,
 ⟨7, .pure, 0, ⟨(some 68), (some (67, false)), .plain (.faddr 21 (.tmp 1))⟩, [], []⟩,
 ⟨8, .read, 0, ⟨(some 69), (some (67, false)), .plain (.load none (.tmp 68))⟩, [], []⟩,
 ⟨9, .pure, 0, ⟨(some 70), (some (67, false)), .plain (.faddr 2 (.tmp 1))⟩, [], []⟩,
 ⟨10, .read, 0, ⟨(some 71), (some (67, false)), .plain (.load none (.tmp 70))⟩, [], []⟩,
 ⟨11, .pure, 0, ⟨(some 72), (some (67, false)), .plain (.bin .leq (.tmp 69) (.tmp 71))⟩, [], []⟩,
 ⟨12, .pure, 0, ⟨(some 73), none, .plain (.pick (.tmp 67) (.const (.bool true)) (.tmp 72))⟩, [], []⟩,
 ⟨13, .pure, 0, ⟨(some 74), none, .plain (.mov (.tmp 73))⟩, [], []⟩,
 ⟨14, .pure, 0, ⟨(some 75), (some (74, false)), .plain (.faddr 21 (.tmp 1))⟩, [], []⟩,
 ⟨15, .read, 0, ⟨(some 76), (some (74, false)), .plain (.load none (.tmp 75))⟩, [], []⟩,
 ⟨16, .pure, 0, ⟨(some 77), (some (74, false)), .plain (.faddr 0 (.tmp 1))⟩, [], []⟩,
 ⟨17, .read, 0, ⟨(some 78), (some (74, false)), .plain (.load none (.tmp 77))⟩, [], []⟩,
 ⟨18, .pure, 0, ⟨(some 79), (some (74, false)), .plain (.bin .sub (.tmp 78) (.const (.int .i64 1)))⟩, [], []⟩,
 ⟨19, .read, 0, ⟨(some 80), (some (74, false)), .plain (.load (some 22) (.tmp 1))⟩, [], []⟩,
 ⟨20, .chain, 0, ⟨(some 81), (some (74, false)), .call 42 [(.tmp 80)]⟩, [17, 15], []⟩,
 ⟨21, .pure, 0, ⟨(some 82), (some (74, false)), .plain (.bin .sub (.tmp 79) (.tmp 81))⟩, [], []⟩,
 ⟨22, .pure, 0, ⟨(some 83), (some (74, false)), .plain (.bin .gtr (.tmp 76) (.tmp 82))⟩, [], []⟩,
 ⟨23, .pure, 0, ⟨(some 84), none, .plain (.pick (.tmp 74) (.const (.bool true)) (.tmp 83))⟩, [], []⟩,
 ⟨24, .pure, 0, ⟨(some 60), none, .plain (.mov (.tmp 84))⟩, [], []⟩])
 (.cond (.tmp 60)
 (.both (.seq [⟨(some 2), none, .plain (.mov (.const (.int .i64 4)))⟩])
 .ret)
 .skip)))))))
 (.both (.seq [⟨(some 4), none, .plain (.mov (.const (.slice none 0 0)))⟩])
 (.both (.both (.seq [⟨(some 85), none, .plain (.faddr 19 (.tmp 1))⟩,
 ⟨(some 86), none, .plain (.load none (.tmp 85))⟩,
 ⟨(some 87), none, .plain (.len .sl (.tmp 86))⟩,
 ⟨(some 88), none, .plain (.mov (.const (.int .i64 0)))⟩])
 (.block 1 (.loop (.both (.seq [⟨(some 89), none, .plain (.bin .lss (.tmp 88) (.tmp 87))⟩])
 (.both (.cond (.tmp 89)
 .skip
 (.exit 1))
 (.both (.block 2 (.both (.seq [⟨(some 90), none, .plain (.iaddr none 114 (.tmp 86) (.tmp 88))⟩,
 ⟨(some 91), none, .plain (.load (some 114) (.tmp 90))⟩,
 ⟨(some 6), none, .plain (.alloc [(.int .u8 0), (.int .u8 0), (.int .u8 0), (.int .u8 0), (.int .u8 0), (.int .u8 0), (.int .u8 0), (.int .u8 0), (.int .u8 0), (.int .u8 0), (.int .u8 0), (.int .u8 0), (.int .u8 0), (.int .u8 0), (.int .u8 0), (.int .u8 0), (.int .u8 0), (.int .u8 0), (.int .u8 0), (.int .u8 0), (.int .u8 0), (.int .u8 0), (.int .u8 0), (.int .u8 0), (.int .u8 0), (.int .u8 0), (.int .u8 0), (.int .u8 0), (.int .u8 0), (.int .u8 0), (.int .u8 0), (.int .u8 0), (.int .i64 0), (.int .i64 0), (.int .u8 0), (.int .u8 0), (.int .u8 0), (.int .u8 0), (.int .u8 0), (.int .u8 0), (.int .u8 0), (.int .u8 0), (.int .u8 0), (.int .u8 0), (.int .u8 0), (.int .u8 0), (.int .u8 0), (.int .u8 0), (.int .u8 0), (.int .u8 0), (.int .u8 0), (.int .u8 0), (.int .u8 0), (.int .u8 0), (.int .u8 0), (.int .u8 0), (.int .u8 0), (.int .u8 0), (.int .u8 0), (.int .u8 0), (.int .u8 0), (.int .u8 0), (.int .u8 0), (.int .u8 0), (.int .u8 0), (.int .u8 0), (.int .u8 0), (.int .u8 0), (.int .u8 0), (.int .u8 0), (.int .u8 0), (.int .u8 0), (.int .u8 0), (.int .u8 0), (.int .u8 0), (.int .u8 0), (.int .u8 0), (.int .u8 0), (.int .u8 0), (.int .u8 0), (.int .u8 0), (.int .u8 0), (.int .u8 0), (.int .u8 0), (.int .u8 0), (.int .u8 0), (.int .u8 0), (.int .u8 0), (.int .u8 0), (.int .u8 0), (.int .u8 0), (.int .u8 0), (.int .u8 0), (.int .u8 0), (.int .u8 0), (.int .u8 0), (.int .u8 0), (.int .u8 0), (.int .u8 0), (.int .u8 0), (.int .u8 0), (.int .u8 0), (.int .u8 0), (.int .u8 0), (.int .u8 0), (.int .u8 0), (.int .u8 0), (.int .u8 0), (.int .u8 0), (.int .u8 0), (.int .u8 0), (.int .u8 0), (.int .u8 0), (.int .u8 0)])⟩,
 ⟨none, none, .plain (.store 114 (.tmp 6) (.tmp 91))⟩])
 (.both (.both (.seq [⟨(some 92), none, .plain (.load (some 114) (.tmp 6))⟩,
 ⟨(some 93), none, .call 43 [(.tmp 92)]⟩])
 (.cond (.tmp 93)
 (.both (.both (.seq [⟨(some 94), none, .plain (.load (some 114) (.tmp 6))⟩,
 ⟨(some 95), none, .plain (.build (.str [(.int .u8 0), (.int .u8 0), (.int .u8 0), (.int .u8 0), (.int .u8 0), (.int .u8 0), (.int .u8 0), (.int .u8 0), (.int .u8 0), (.int .u8 0), (.int .u8 0), (.int .u8 0), (.int .u8 0), (.int .u8 0), (.int .u8 0), (.int .u8 0), (.int .u8 0), (.int .u8 0), (.int .u8 0), (.int .u8 0), (.int .u8 0), (.int .u8 0), (.int .u8 0), (.int .u8 0), (.int .u8 0), (.int .u8 0), (.int .u8 0), (.int .u8 0), (.int .u8 0), (.int .u8 0), (.int .u8 0), (.int .u8 0), (.int .i64 0), (.int .i64 0), (.int .u8 0), (.int .u8 0), (.int .u8 0), (.int .u8 0), (.int .u8 0), (.int .u8 0), (.int .u8 0), (.int .u8 0), (.int .u8 0), (.int .u8 0), (.int .u8 0), (.int .u8 0), (.int .u8 0), (.int .u8 0), (.int .u8 0), (.int .u8 0), (.int .u8 0), (.int .u8 0), (.int .u8 0), (.int .u8 0), (.int .u8 0), (.int .u8 0), (.int .u8 0), (.int .u8 0), (.int .u8 0), (.int .u8 0), (.int .u8 0), (.int .u8 0), (.int .u8 0), (.int .u8 0), (.int .u8 0), (.int .u8 0), (.int .u8 0), (.int .u8 0), (.int .u8 0), (.int .u8 0), (.int .u8 0), (.int .u8 0), (.int .u8 0), (.int .u8 0), (.int .u8 0), (.int .u8 0), (.int .u8 0), (.int .u8 0), (.int .u8 0), (.int .u8 0), (.int .u8 0), (.int .u8 0), (.int .u8 0), (.int .u8 0), (.int .u8 0), (.int .u8 0), (.int .u8 0), (.int .u8 0), (.int .u8 0), (.int .u8 0), (.int .u8 0), (.int .u8 0), (.int .u8 0), (.int .u8 0), (.int .u8 0), (.int .u8 0), (.int .u8 0), (.int .u8 0), (.int .u8 0), (.int .u8 0), (.int .u8 0), (.int .u8 0), (.int .u8 0), (.int .u8 0), (.int .u8 0), (.int .u8 0), (.int .u8 0), (.int .u8 0), (.int .u8 0), (.int .u8 0), (.int .u8 0), (.int .u8 0), (.int .u8 0), (.int .u8 0)] [(0, 32), (32, 1), (33, 1), (34, 80)]) [])⟩,
 ⟨(some 96), none, .plain (.eqA true [(0, .int), (1, .int), (2, .int), (3, .int), (4, .int), (5, .int), (6, .int), (7, .int), (8, .int), (9, .int), (10, .int), (11, .int), (12, .int), (13, .int), (14, .int), (15, .int), (16, .int), (17, .int), (18, .int), (19, .int), (20, .int), (21, .int), (22, .int), (23, .int), (24, .int), (25, .int), (26, .int), (27, .int), (28, .int), (29, .int), (30, .int), (31, .int), (32, .int), (33, .int), (34, .int), (35, .int), (36, .int), (37, .int), (38, .int), (39, .int), (40, .int), (41, .int), (42, .int), (43, .int), (44, .int), (45, .int), (46, .int), (47, .int), (48, .int), (49, .int), (50, .int), (51, .int), (52, .int), (53, .int), (54, .int), (55, .int), (56, .int), (57, .int), (58, .int), (59, .int), (60, .int), (61, .int), (62, .int), (63, .int), (64, .int), (65, .int), (66, .int), (67, .int), (68, .int), (69, .int), (70, .int), (71, .int), (72, .int), (73, .int), (74, .int), (75, .int), (76, .int), (77, .int), (78, .int), (79, .int), (80, .int), (81, .int), (82, .int), (83, .int), (84, .int), (85, .int), (86, .int), (87, .int), (88, .int), (89, .int), (90, .int), (91, .int), (92, .int), (93, .int), (94, .int), (95, .int), (96, .int), (97, .int), (98, .int), (99, .int), (100, .int), (101, .int), (102, .int), (103, .int), (104, .int), (105, .int), (106, .int), (107, .int), (108, .int), (109, .int), (110, .int), (111, .int), (112, .int), (113, .int)] (.tmp 94) (.tmp 95))⟩])
 (.cond (.tmp 96)
 (.both (.seq [⟨(some 2), none, .plain (.mov (.const (.int .i64 11)))⟩])
 .ret)
 .skip))
 (.exit 2))
 .skip))
 (.both (.both (.seq [⟨(some 97), none, .plain (.faddr 32 (.tmp 6))⟩,
 ⟨(some 98), none, .plain (.load none (.tmp 97))⟩,
 ⟨(some 99), none, .plain (.faddr 1 (.tmp 1))⟩,
 ⟨(some 100), none, .plain (.load none (.tmp 99))⟩,
 ⟨(some 101), none, .plain (.bin .lss (.tmp 98) (.tmp 100))⟩,
 ⟨(some 102), none, .plain (.mov (.tmp 101))⟩,
 ⟨(some 103), (some (102, false)), .plain (.faddr 33 (.tmp 6))⟩,
 ⟨(some 104), (some (102, false)), .plain (.load none (.tmp 103))⟩,
 ⟨(some 105), (some (102, false)), .plain (.faddr 2 (.tmp 1))⟩,
 ⟨(some 106), (some (102, false)), .plain (.load none (.tmp 105))⟩,
 ⟨(some 107), (some (102, false)), .plain (.bin .gtr (.tmp 104) (.tmp 106))⟩,
 ⟨(some 108), none, .plain (.pick (.tmp 102) (.const (.bool true)) (.tmp 107))⟩,
 ⟨(some 109), none, .plain (.mov (.tmp 108))⟩,
 ⟨(some 110), (some (109, false)), .plain (.faddr 33 (.tmp 6))⟩,
 ⟨(some 111), (some (109, false)), .plain (.load none (.tmp 110))⟩,
 ⟨(some 112), (some (109, false)), .plain (.faddr 32 (.tmp 6))⟩,
 ⟨(some 113), (some (109, false)), .plain (.load none (.tmp 112))⟩,
 ⟨(some 114), (some (109, false)), .plain (.bin .lss (.tmp 111) (.tmp 113))⟩,
 ⟨(some 115), none, .plain (.pick (.tmp 109) (.const (.bool true)) (.tmp 114))⟩])
 (.cond (.tmp 115)
 (.both (.seq [⟨(some 2), none, .plain (.mov (.const (.int .i64 4)))⟩])
 .ret)
 .skip))
 (.seq [⟨(some 116), none, .plain (.mov (.tmp 4))⟩,
 ⟨(some 117), none, .plain (.faddr 32 (.tmp 6))⟩,
 ⟨(some 118), none, .plain (.load none (.tmp 117))⟩,
 ⟨(some 119), none, .plain (.faddr 33 (.tmp 6))⟩,
 ⟨(some 120), none, .plain (.load none (.tmp 119))⟩,
 ⟨(some 121), none, .plain (.bin .add (.tmp 120) (.const (.int .i64 1)))⟩,
 ⟨(some 122), none, .plain (.build (.str [(.int .i64 0), (.int .i64 0)] [(0, 1), (1, 1)]) [(0, (.tmp 118)), (1, (.tmp 121))])⟩,
 ⟨(some 123), none, .plain (.buildSlice ⟨2, 16, [(.int .i64 0), (.int .i64 0)]⟩ 1 [(0, (.tmp 122))])⟩,
 ⟨(some 124), none, .plain (.append ⟨2, 16, [(.int .i64 0), (.int .i64 0)]⟩ false (.tmp 116) (.tmp 123))⟩,
 ⟨(some 4), none, .plain (.mov (.tmp 124))⟩])))))
 (.seq [⟨(some 125), none, .plain (.bin .add (.tmp 88) (.const (.int .i64 1)))⟩,
 ⟨(some 88), none, .plain (.mov (.tmp 125))⟩])))))))
 (.both (.block 3 (.both (.seq [⟨(some 127), none, .plain (.mov (.tmp 4))⟩,
 ⟨(some 128), none, .plain (.len .sl (.tmp 127))⟩,
 ⟨(some 129), none, .plain (.bin .gtr (.tmp 128) (.const (.int .i64 32)))⟩,
 ⟨(some 126), none, .plain (.mov (.tmp 129))⟩])
 (.cond (.tmp 126)
 (.both (.seq [⟨(some 2), none, .plain (.mov (.const (.int .i64 3)))⟩])
 .ret)
 (.both (.seq [⟨(some 131), none, .plain (.mov (.tmp 4))⟩,
 ⟨(some 132), none, .call 38 [(.tmp 131)]⟩,
 ⟨(some 133), none, .plain (.un .not (.tmp 132))⟩,
 ⟨(some 130), none, .plain (.mov (.tmp 133))⟩])
 (.cond (.tmp 130)
 (.both (.seq [⟨(some 2), none, .plain (.mov (.const (.int .i64 14)))⟩])
 .ret)
 .skip)))))
 (.both (.seq [⟨(some 2), none, .plain (.mov (.const (.int .i64 0)))⟩])
 .ret)))))))⟩
/-- fettle/fettleref14.Check -/
def a18 : AFunc := ⟨1, [.tmp 2],
 (.both (.seq [⟨(some 1), none, .plain (.box (.tmp 0))⟩,
 ⟨(some 2), none, .plain (.mov (.const (.int .i64 0)))⟩])
 (.both (.seq [⟨(some 7), none, .plain (.faddr 4 (.tmp 1))⟩,
 ⟨(some 8), none, .plain (.load none (.tmp 7))⟩,
 ⟨(some 9), none, .plain (.len .sl (.tmp 8))⟩,
 ⟨(some 3), none, .plain (.mov (.tmp 9))⟩])
 (.both (.block 0 (.both (.seq [⟨(some 11), none, .plain (.faddr 0 (.tmp 1))⟩,
 ⟨(some 12), none, .plain (.load none (.tmp 11))⟩,
 ⟨(some 13), none, .plain (.bin .lss (.tmp 12) (.const (.int .i64 6)))⟩,
 ⟨(some 14), none, .plain (.mov (.tmp 13))⟩,
 ⟨(some 15), (some (14, false)), .plain (.faddr 0 (.tmp 1))⟩,
 ⟨(some 16), (some (14, false)), .plain (.load none (.tmp 15))⟩,
 ⟨(some 17), (some (14, false)), .plain (.bin .gtr (.tmp 16) (.const (.int .i64 32768)))⟩,
 ⟨(some 18), none, .plain (.pick (.tmp 14) (.const (.bool true)) (.tmp 17))⟩,
 ⟨(some 19), none, .plain (.mov (.tmp 18))⟩,
 ⟨(some 20), (some (19, false)), .plain (.mov (.tmp 3))⟩,
 ⟨(some 21), (some (19, false)), .plain (.bin .lss (.tmp 20) (.const (.int .i64 1)))⟩,
 ⟨(some 22), none, .plain (.pick (.tmp 19) (.const (.bool true)) (.tmp 21))⟩,
 ⟨(some 23), none, .plain (.mov (.tmp 22))⟩,
 ⟨(some 24), (some (23, false)), .plain (.mov (.tmp 3))⟩,
 ⟨(some 25), (some (23, false)), .plain (.bin .gtr (.tmp 24) (.const (.int .i64 128)))⟩,
 ⟨(some 26), none, .plain (.pick (.tmp 23) (.const (.bool true)) (.tmp 25))⟩,
 ⟨(some 10), none, .plain (.mov (.tmp 26))⟩])
 (.cond (.tmp 10)
 (.both (.seq [⟨(some 2), none, .plain (.mov (.const (.int .i64 11)))⟩])
 .ret)
 (.both (.draw 0 [⟨0, .pure, 0, ⟨(some 28), none, .plain (.faddr 5 (.tmp 1))⟩, [], []⟩,
 ⟨1, .read, 0, ⟨(some 29), none, .plain (.load none (.tmp 28))⟩, [], []⟩,
 ⟨2, .pure, 0, ⟨(some 30), none, .plain (.bin .lss (.tmp 29) (.const (.int .i64 2)))⟩, [], []⟩,
 ⟨3, .pure, 0, ⟨(some 31), none, .plain (.mov (.tmp 30))⟩, [], []⟩,
 ⟨4, .pure, 0, ⟨(some 32), (some (31, false)), .plain (.faddr 5 (.tmp 1))⟩, [], []⟩,
 ⟨5, .read, 0, ⟨(some 33), (some (31, false)), .plain (.load none (.tmp 32))⟩, [], []⟩,
 ⟨6, .pure, 0, ⟨(some 34), (some (31, false)), .plain (.faddr 0 (.tmp 1))⟩, [], []⟩,
 ⟨7, .read, 0, ⟨(some 35), (some (31, false)), .plain (.load none (.tmp 34))⟩, [], []⟩,
 ⟨8, .pure, 0, ⟨(some 36), (some (31, false)), .plain (.bin .sub (.tmp 35) (.const (.int .i64 1)))⟩, [], []⟩,
 ⟨9, .pure, 0, ⟨(some 37), (some (31, false)), .plain (.mov (.tmp 3))⟩, [], []⟩,
 ⟨10, .chain, 0, ⟨(some 38), (some (31, false)), .call 44 [(.tmp 37)]⟩, [7, 5], []⟩,
 ⟨11, .pure, 0, ⟨(some 39), (some (31, false)), .plain (.bin .sub (.tmp 36) (.tmp 38))⟩, [], []⟩,
 ⟨12, .pure, 0, ⟨(some 40), (some (31, false)), .plain (.bin .gtr (.tmp 33) (.tmp 39))⟩, [], []⟩,
 ⟨13, .pure, 0, ⟨(some 41), none, .plain (.pick (.tmp 31) (.const (.bool true)) (.tmp 40))⟩, [], []⟩,
 ⟨14, .pure, 0, ⟨(some 42), none, .plain (.mov (.tmp 41))⟩, [], []⟩,
 ⟨15, .pure, 0, ⟨(some 43), (some (42, false)), .plain (.faddr 1 (.tmp 1))⟩, [], []⟩,
 ⟨16, .read, 0, ⟨(some 44), (some (42, false)), .plain (.load none (.tmp 43))⟩, [], []⟩,
 ⟨17, .pure, 0, ⟨(some 45), (some (42, false)), .plain (.faddr 5 (.tmp 1))⟩, [], []⟩,
 ⟨18, .read, 0, ⟨(some 46), (some (42, false)), .plain (.load none (.tmp 45))⟩, [], []⟩,
 ⟨19, .pure, 0, ⟨(some 47), (some (42, false)), .plain (.mov (.tmp 3))⟩, [], []⟩,
 ⟨20, .chain, 0, ⟨(some 48), (some (42, false)), .call 44 [(.tmp 47)]⟩, [18, 16], []⟩,
 ⟨21, .pure, 0, ⟨(some 49), (some (42, false)), .plain (.bin .add (.tmp 46) (.tmp 48))⟩, [], []⟩,
 ⟨22, .pure, 0, ⟨(some 50), (some (42, false)), .plain (.bin .lss (.tmp 44) (.tmp 49))⟩, [], []⟩,
 ⟨23, .pure, 0, ⟨(some 51), none, .plain (.pick (.tmp 42) (.const (.bool true)) (.tmp 50))⟩, [], []⟩,
 ⟨24, .pure, 0, ⟨(some 52), none, .plain (.mov (.tmp 51))⟩, [], []⟩,
 ⟨25, .pure, 0, ⟨(some 53), (some (52, false)), .plain (.faddr 1 (.tmp 1))⟩, [], []⟩,
 ⟨26, .read, 0, ⟨(some 54), (some (52, false)), .plain (.load none (.tmp 53))⟩, [], []⟩,
 ⟨27, .pure, 0, ⟨(some 55), (some (52, false)), .plain (.faddr 0 (.tmp 1))⟩, [], []⟩,
 ⟨28, .read, 0, ⟨(some 56), (some (52, false)), .plain (.load none (.tmp 55))⟩, [], []⟩,
 ⟨29, .pure, 0, ⟨(some 57), (some (52, false)), .plain (.bin .sub (.tmp 56) (.const (.int .i64 1)))⟩, [], []⟩,
 ⟨30, .pure, 0, ⟨(some 58), (some (52, false)), .plain (.bin .gtr (.tmp 54) (.tmp 57))⟩, [], []⟩,
 ⟨31, .pure, 0, ⟨(some 59), none, .plain (.pick (.tmp 52) (.const (.bool true)) (.tmp 58))⟩, [], []⟩,
 ⟨32, .pure, 0, ⟨(some 60), none, .plain (.mov (.tmp 59))⟩, [], []⟩,
 ⟨33, .pure, 0, ⟨(some 61), (some (60, false)), .plain (.faddr 2 (.tmp 1))⟩, [], []⟩,
 ⟨34, .read, 0, ⟨(some 62), (some (60, false)), .plain (.load none (.tmp 61))⟩, [], []⟩,
 ⟨35, .pure, 0, ⟨(some 63), (some (60, false)), .plain (.faddr 1 (.tmp 1))⟩, [], []⟩,
 ⟨36, .read, 0, ⟨(some 64), (some (60, false)), .plain (.load none (.tmp 63))⟩, [], []⟩,
 ⟨37, .pure, 0, ⟨(some 65), (some (60, false)), .plain (.bin .sub (.tmp 64) (.const (.int .i64 1)))⟩, [], []⟩,
 ⟨38, .pure, 0, ⟨(some 66), (some (60, false)), .plain (.bin .lss (.tmp 62) (.tmp 65))⟩, [], []⟩,
 ⟨39, .pure, 0, ⟨(some 67), none, .plain (.pick (.tmp 60) (.const (.bool true)) (.tmp 66))⟩, [], []⟩,
 ⟨40, .pure, 0, ⟨(some 68), none, .plain (.mov (.tmp 67))⟩, [], []⟩,
 ⟨41, .pure, 0, ⟨(some 69), (some (68, false)), .plain (.faddr 6 (.tmp 1))⟩, [], []⟩,
 ⟨42, .read, 0, ⟨(some 70), (some (68, false)), .plain (.load none (.tmp 69))⟩, [], []⟩,
 ⟨43, .pure, 0, ⟨(some 71), (some (68, false)), .plain (.faddr 2 (.tmp 1))⟩, [], []⟩,
 ⟨44, .read, 0, ⟨(some 72), (some (68, false)), .plain (.load none (.tmp 71))⟩, [], []⟩,
 ⟨45, .pure, 0, ⟨(some 73), (some (68, false)), .plain (.bin .leq (.tmp 70) (.tmp 72))⟩, [], []⟩,
 ⟨46, .pure, 0, ⟨(some 74), none, .plain (.pick (.tmp 68) (.const (.bool true)) (.tmp 73))⟩, [], []⟩,
 ⟨47, .pure, 0, ⟨(some 75), none, .plain (.mov (.tmp 74))⟩, [], []⟩,
 ⟨48, .pure, 0, ⟨(some 76), (some (75, false)), .plain (.faddr 6 (.tmp 1))⟩, [], []⟩,
 ⟨49, .read, 0, ⟨(some 77), (some (75, false)), .plain (.load none (.tmp 76))⟩, [], []⟩,
 ⟨50, .pure, 0, ⟨(some 78), (some (75, false)), .plain (.faddr 0 (.tmp 1))⟩, [], []⟩,
 ⟨51, .read, 0, ⟨(some 79), (some (75, false)), .plain (.load none (.tmp 78))⟩, [], []⟩,
 ⟨52, .pure, 0, ⟨(some 80), (some (75, false)), .plain (.bin .sub (.tmp 79) (.const (.int .i64 1)))⟩, [], []⟩,
 ⟨53, .pure, 0, ⟨(some 81), (some (75, false)), .plain (.mov (.tmp 3))⟩, [], []⟩,
 ⟨54, .chain, 0, ⟨(some 82), (some (75, false)), .call 44 [(.tmp 81)]⟩, [51, 49], []⟩,
 ⟨55, .pure, 0, ⟨(some 83), (some (75, false)), .plain (.bin .sub (.tmp 80) (.tmp 82))⟩, [], []⟩,
 ⟨56, .pure, 0, ⟨(some 84), (some (75, false)), .plain (.bin .gtr (.tmp 77) (.tmp 83))⟩, [], []⟩,
 ⟨57, .pure, 0, ⟨(some 85), none, .plain (.pick (.tmp 75) (.const (.bool true)) (.tmp 84))⟩, [], []⟩,
 ⟨58, .pure, 0, ⟨(some 27), none, .plain (.mov (.tmp 85))⟩, [], []⟩])
 (.cond (.tmp 27)
 (.both (.seq [⟨(some 2), none, .plain (.mov (.const (.int .i64 4)))⟩])
 .ret)
 .skip)))))
 (.both (.seq [⟨(some 4), none, .plain (.mov (.const (.slice none 0 0)))⟩])
 (.both (.both (.seq [⟨(some 5), none, .plain (.mov (.const (.int .i64 0)))⟩])
 (.block 1 (.loop (.both (.both (.seq [⟨(some 86), none, .plain (.mov (.tmp 5))⟩,
 ⟨(some 87), none, .plain (.faddr 4 (.tmp 1))⟩,
 ⟨(some 88), none, .plain (.load none (.tmp 87))⟩,
 ⟨(some 89), none, .plain (.len .sl (.tmp 88))⟩,
 ⟨(some 90), none, .plain (.bin .lss (.tmp 86) (.tmp 89))⟩])
 (.cond (.tmp 90)
 .skip
 (.exit 1)))
 (.both (.block 2 (.both (.seq [⟨(some 93), none, .plain (.faddr 4 (.tmp 1))⟩,
 ⟨(some 94), none, .plain (.load none (.tmp 93))⟩,
 ⟨(some 95), none, .plain (.mov (.tmp 5))⟩,
 ⟨(some 96), none, .plain (.iaddr none 4 (.tmp 94) (.tmp 95))⟩,
 ⟨(some 97), none, .plain (.load (some 4) (.tmp 96))⟩,
 ⟨(some 6), none, .plain (.alloc [(.slice none 0 0), (.int .i64 0), (.int .i64 0), (.slice none 0 0)])⟩,
 ⟨none, none, .plain (.store 4 (.tmp 6) (.tmp 97))⟩])
 (.both (.both (.seq [⟨(some 98), none, .plain (.faddr 0 (.tmp 6))⟩,
 ⟨(some 99), none, .plain (.load none (.tmp 98))⟩,
 ⟨(some 100), none, .plain (.cut (.sl 1) (.tmp 99) none (some (.const (.int .i64 16))) none)⟩,
 ⟨(some 101), none, .call 45 [(.tmp 100)]⟩])
 (.cond (.tmp 101)
 (.both (.both (.seq [⟨(some 102), none, .plain (.faddr 0 (.tmp 6))⟩,
 ⟨(some 103), none, .plain (.load none (.tmp 102))⟩,
 ⟨(some 104), none, .call 45 [(.tmp 103)]⟩,
 ⟨(some 105), none, .plain (.un .not (.tmp 104))⟩,
 ⟨(some 106), none, .plain (.mov (.tmp 105))⟩,
 ⟨(some 107), (some (106, false)), .plain (.faddr 1 (.tmp 6))⟩,
 ⟨(some 108), (some (106, false)), .plain (.load none (.tmp 107))⟩,
 ⟨(some 109), (some (106, false)), .plain (.bin .neq (.tmp 108) (.const (.int .i64 0)))⟩,
 ⟨(some 110), none, .plain (.pick (.tmp 106) (.const (.bool true)) (.tmp 109))⟩,
 ⟨(some 111), none, .plain (.mov (.tmp 110))⟩,
 ⟨(some 112), (some (111, false)), .plain (.faddr 2 (.tmp 6))⟩,
 ⟨(some 113), (some (111, false)), .plain (.load none (.tmp 112))⟩,
 ⟨(some 114), (some (111, false)), .plain (.bin .neq (.tmp 113) (.const (.int .i64 0)))⟩,
 ⟨(some 115), none, .plain (.pick (.tmp 111) (.const (.bool true)) (.tmp 114))⟩,
 ⟨(some 116), none, .plain (.mov (.tmp 115))⟩,
 ⟨(some 117), (some (116, false)), .plain (.faddr 3 (.tmp 6))⟩,
 ⟨(some 118), (some (116, false)), .plain (.load none (.tmp 117))⟩,
 ⟨(some 119), (some (116, false)), .call 45 [(.tmp 118)]⟩,
 ⟨(some 120), (some (116, false)), .plain (.un .not (.tmp 119))⟩,
 ⟨(some 121), none, .plain (.pick (.tmp 116) (.const (.bool true)) (.tmp 120))⟩])
 (.cond (.tmp 121)
 (.both (.seq [⟨(some 2), none, .plain (.mov (.const (.int .i64 11)))⟩])
 .ret)
 .skip))
 (.exit 2))
 .skip))
 (.both (.both (.seq [⟨(some 122), none, .plain (.faddr 1 (.tmp 6))⟩,
 ⟨(some 123), none, .plain (.load none (.tmp 122))⟩,
 ⟨(some 124), none, .plain (.faddr 1 (.tmp 1))⟩,
 ⟨(some 125), none, .plain (.load none (.tmp 124))⟩,
 ⟨(some 126), none, .plain (.bin .lss (.tmp 123) (.tmp 125))⟩,
 ⟨(some 127), none, .plain (.mov (.tmp 126))⟩,
 ⟨(some 128), (some (127, false)), .plain (.faddr 2 (.tmp 6))⟩,
 ⟨(some 129), (some (127, false)), .plain (.load none (.tmp 128))⟩,
 ⟨(some 130), (some (127, false)), .plain (.faddr 2 (.tmp 1))⟩,
 ⟨(some 131), (some (127, false)), .plain (.load none (.tmp 130))⟩,
 ⟨(some 132), (some (127, false)), .plain (.bin .gtr (.tmp 129) (.tmp 131))⟩,
 ⟨(some 133), none, .plain (.pick (.tmp 127) (.const (.bool true)) (.tmp 132))⟩,
 ⟨(some 134), none, .plain (.mov (.tmp 133))⟩,
 ⟨(some 135), (some (134, false)), .plain (.faddr 2 (.tmp 6))⟩,
 ⟨(some 136), (some (134, false)), .plain (.load none (.tmp 135))⟩,
 ⟨(some 137), (some (134, false)), .plain (.faddr 1 (.tmp 6))⟩,
 ⟨(some 138), (some (134, false)), .plain (.load none (.tmp 137))⟩,
 ⟨(some 139), (some (134, false)), .plain (.bin .lss (.tmp 136) (.tmp 138))⟩,
 ⟨(some 140), none, .plain (.pick (.tmp 134) (.const (.bool true)) (.tmp 139))⟩])
 (.cond (.tmp 140)
 (.both (.seq [⟨(some 2), none, .plain (.mov (.const (.int .i64 4)))⟩])
 .ret)
 .skip))
 (.seq [⟨(some 141), none, .plain (.mov (.tmp 4))⟩,
 ⟨(some 142), none, .plain (.faddr 1 (.tmp 6))⟩,
 ⟨(some 143), none, .plain (.load none (.tmp 142))⟩,
 ⟨(some 144), none, .plain (.faddr 2 (.tmp 6))⟩,
 ⟨(some 145), none, .plain (.load none (.tmp 144))⟩,
 ⟨(some 146), none, .plain (.bin .add (.tmp 145) (.const (.int .i64 1)))⟩,
 ⟨(some 147), none, .plain (.build (.str [(.int .i64 0), (.int .i64 0)] [(0, 1), (1, 1)]) [(0, (.tmp 143)), (1, (.tmp 146))])⟩,
 ⟨(some 148), none, .plain (.buildSlice ⟨2, 16, [(.int .i64 0), (.int .i64 0)]⟩ 1 [(0, (.tmp 147))])⟩,
 ⟨(some 149), none, .plain (.append ⟨2, 16, [(.int .i64 0), (.int .i64 0)]⟩ false (.tmp 141) (.tmp 148))⟩,
 ⟨(some 4), none, .plain (.mov (.tmp 149))⟩])))))
 (.seq [⟨(some 91), none, .plain (.mov (.tmp 5))⟩,
 ⟨(some 92), none, .plain (.bin .add (.tmp 91) (.const (.int .i64 1)))⟩,
 ⟨(some 5), none, .plain (.mov (.tmp 92))⟩]))))))
 (.both (.both (.seq [⟨(some 150), none, .plain (.mov (.tmp 4))⟩,
 ⟨(some 151), none, .plain (.len .sl (.tmp 150))⟩,
 ⟨(some 152), none, .plain (.bin .gtr (.tmp 151) (.const (.int .i64 32)))⟩])
 (.cond (.tmp 152)
 (.both (.seq [⟨(some 2), none, .plain (.mov (.const (.int .i64 3)))⟩])
 .ret)
 .skip))
 (.both (.both (.seq [⟨(some 153), none, .plain (.mov (.tmp 4))⟩,
 ⟨(some 154), none, .call 46 [(.tmp 153)]⟩,
 ⟨(some 155), none, .plain (.un .not (.tmp 154))⟩])
 (.cond (.tmp 155)
 (.both (.seq [⟨(some 2), none, .plain (.mov (.const (.int .i64 14)))⟩])
 .ret)
 .skip))
 (.both (.seq [⟨(some 2), none, .plain (.mov (.const (.int .i64 0)))⟩])
 .ret))))))))⟩
/-- fettle/fettlelaw14.of -/
def a19 : AFunc := ⟨1, [.cell 2 (some 7)],
 (.both (.seq [⟨(some 1), none, .plain (.box (.tmp 0))⟩,
 ⟨(some 2), none, .plain (.alloc [(.int .i64 0), (.int .i64 0), (.int .i64 0), (.slice none 0 0), (.slice none 0 0), (.int .i64 0), (.int .i64 0)])⟩])
 (.both (.draw 1 [⟨0, .pure, 0, ⟨(some 6), none, .plain (.faddr 0 (.tmp 1))⟩, [], []⟩,
 ⟨1, .read, 0, ⟨(some 7), none, .plain (.load none (.tmp 6))⟩, [], []⟩,
 ⟨2, .pure, 0, ⟨(some 8), none, .plain (.faddr 1 (.tmp 1))⟩, [], []⟩,
 ⟨3, .read, 0, ⟨(some 9), none, .plain (.load none (.tmp 8))⟩, [], []⟩,
 ⟨4, .pure, 0, ⟨(some 10), none, .plain (.faddr 2 (.tmp 1))⟩, [], []⟩,
 ⟨5, .read, 0, ⟨(some 11), none, .plain (.load none (.tmp 10))⟩, [], []⟩,
 ⟨6, .pure, 0, ⟨(some 12), none, .plain (.faddr 3 (.tmp 1))⟩, [], []⟩,
 ⟨7, .read, 0, ⟨(some 13), none, .plain (.cut (.arr 16 1) (.tmp 12) none none none)⟩, [], []⟩,
 ⟨9, .pure, 0, ⟨(some 15), none, .plain (.faddr 20 (.tmp 1))⟩, [], []⟩,
 ⟨10, .read, 0, ⟨(some 16), none, .plain (.load none (.tmp 15))⟩, [], []⟩,
 ⟨11, .pure, 0, ⟨(some 17), none, .plain (.faddr 21 (.tmp 1))⟩, [], []⟩,
 ⟨12, .read, 0, ⟨(some 18), none, .plain (.load none (.tmp 17))⟩, [], []⟩,
 ⟨8, .chain, 0, ⟨(some 14), none, .call 47 [(.tmp 13), (.const (.int .i64 0)), (.const (.int .i64 16))]⟩, [12, 10, 5, 3, 1], [0]⟩,
 ⟨13, .pure, 0, ⟨(some 19), none, .plain (.build (.str [(.int .i64 0), (.int .i64 0), (.int .i64 0), (.slice none 0 0), (.slice none 0 0), (.int .i64 0), (.int .i64 0)] [(0, 1), (1, 1), (2, 1), (3, 1), (4, 1), (5, 1), (6, 1)]) [(0, (.tmp 7)), (1, (.tmp 9)), (2, (.tmp 11)), (3, (.tmp 14)), (5, (.tmp 16)), (6, (.tmp 18))])⟩, [], []⟩,
 ⟨14, .fresh, 0, ⟨(some 3), none, .plain (.alloc [(.int .i64 0), (.int .i64 0), (.int .i64 0), (.slice none 0 0), (.slice none 0 0), (.int .i64 0), (.int .i64 0)])⟩, [], []⟩,
 ⟨15, .chain, 0, ⟨none, none, .plain (.store 7 (.tmp 3) (.tmp 19))⟩, [], []⟩])
 (.both (.both (.seq [⟨(some 4), none, .plain (.mov (.const (.int .i64 0)))⟩])
 (.block 0 (.loop (.both (.both (.seq [⟨(some 20), none, .plain (.mov (.tmp 4))⟩,
 ⟨(some 21), none, .plain (.faddr 19 (.tmp 1))⟩,
 ⟨(some 22), none, .plain (.load none (.tmp 21))⟩,
 ⟨(some 23), none, .plain (.len .sl (.tmp 22))⟩,
 ⟨(some 24), none, .plain (.bin .lss (.tmp 20) (.tmp 23))⟩])
 (.cond (.tmp 24)
 .skip
 (.exit 0)))
 (.both (.block 1 (.both (.seq [⟨(some 27), none, .plain (.faddr 19 (.tmp 1))⟩,
 ⟨(some 28), none, .plain (.load none (.tmp 27))⟩,
 ⟨(some 29), none, .plain (.mov (.tmp 4))⟩,
 ⟨(some 30), none, .plain (.iaddr none 114 (.tmp 28) (.tmp 29))⟩,
 ⟨(some 31), none, .plain (.load (some 114) (.tmp 30))⟩,
 ⟨(some 5), none, .plain (.alloc [(.int .u8 0), (.int .u8 0), (.int .u8 0), (.int .u8 0), (.int .u8 0), (.int .u8 0), (.int .u8 0), (.int .u8 0), (.int .u8 0), (.int .u8 0), (.int .u8 0), (.int .u8 0), (.int .u8 0), (.int .u8 0), (.int .u8 0), (.int .u8 0), (.int .u8 0), (.int .u8 0), (.int .u8 0), (.int .u8 0), (.int .u8 0), (.int .u8 0), (.int .u8 0), (.int .u8 0), (.int .u8 0), (.int .u8 0), (.int .u8 0), (.int .u8 0), (.int .u8 0), (.int .u8 0), (.int .u8 0), (.int .u8 0), (.int .i64 0), (.int .i64 0), (.int .u8 0), (.int .u8 0), (.int .u8 0), (.int .u8 0), (.int .u8 0), (.int .u8 0), (.int .u8 0), (.int .u8 0), (.int .u8 0), (.int .u8 0), (.int .u8 0), (.int .u8 0), (.int .u8 0), (.int .u8 0), (.int .u8 0), (.int .u8 0), (.int .u8 0), (.int .u8 0), (.int .u8 0), (.int .u8 0), (.int .u8 0), (.int .u8 0), (.int .u8 0), (.int .u8 0), (.int .u8 0), (.int .u8 0), (.int .u8 0), (.int .u8 0), (.int .u8 0), (.int .u8 0), (.int .u8 0), (.int .u8 0), (.int .u8 0), (.int .u8 0), (.int .u8 0), (.int .u8 0), (.int .u8 0), (.int .u8 0), (.int .u8 0), (.int .u8 0), (.int .u8 0), (.int .u8 0), (.int .u8 0), (.int .u8 0), (.int .u8 0), (.int .u8 0), (.int .u8 0), (.int .u8 0), (.int .u8 0), (.int .u8 0), (.int .u8 0), (.int .u8 0), (.int .u8 0), (.int .u8 0), (.int .u8 0), (.int .u8 0), (.int .u8 0), (.int .u8 0), (.int .u8 0), (.int .u8 0), (.int .u8 0), (.int .u8 0), (.int .u8 0), (.int .u8 0), (.int .u8 0), (.int .u8 0), (.int .u8 0), (.int .u8 0), (.int .u8 0), (.int .u8 0), (.int .u8 0), (.int .u8 0), (.int .u8 0), (.int .u8 0), (.int .u8 0), (.int .u8 0), (.int .u8 0), (.int .u8 0), (.int .u8 0), (.int .u8 0)])⟩,
 ⟨none, none, .plain (.store 114 (.tmp 5) (.tmp 31))⟩])
 (.draw 1 [⟨0, .pure, 0, ⟨(some 32), none, .plain (.faddr 4 (.tmp 3))⟩, [], []⟩,
 ⟨1, .read, 0, ⟨(some 33), none, .plain (.load none (.tmp 32))⟩, [], []⟩,
 ⟨2, .pure, 0, ⟨(some 34), none, .plain (.faddr 0 (.tmp 5))⟩, [], []⟩,
 ⟨3, .read, 0, ⟨(some 35), none, .plain (.cut (.arr 32 1) (.tmp 34) none none none)⟩, [], []⟩,
 ⟨5, .pure, 0, ⟨(some 37), none, .plain (.faddr 32 (.tmp 5))⟩, [], []⟩,
 ⟨6, .read, 0, ⟨(some 38), none, .plain (.load none (.tmp 37))⟩, [], []⟩,
 ⟨7, .pure, 0, ⟨(some 39), none, .plain (.faddr 33 (.tmp 5))⟩, [], []⟩,
 ⟨8, .read, 0, ⟨(some 40), none, .plain (.load none (.tmp 39))⟩, [], []⟩,
 ⟨9, .pure, 0, ⟨(some 41), none, .plain (.faddr 34 (.tmp 5))⟩, [], []⟩,
 ⟨10, .read, 0, ⟨(some 42), none, .plain (.cut (.arr 80 1) (.tmp 41) none none none)⟩, [], []⟩,
 ⟨4, .chain, 0, ⟨(some 36), none, .call 47 [(.tmp 35), (.const (.int .i64 0)), (.const (.int .i64 32))]⟩, [10, 8, 6, 1], [0]⟩,
 ⟨11, .chain, 0, ⟨(some 43), none, .call 47 [(.tmp 42), (.const (.int .i64 0)), (.const (.int .i64 80))]⟩, [8, 6, 1], [0]⟩,
 ⟨12, .pure, 0, ⟨(some 44), none, .plain (.build (.str [(.slice none 0 0), (.int .i64 0), (.int .i64 0), (.slice none 0 0)] [(0, 1), (1, 1), (2, 1), (3, 1)]) [(0, (.tmp 36)), (1, (.tmp 38)), (2, (.tmp 40)), (3, (.tmp 43))])⟩, [], []⟩,
 ⟨13, .fresh, 0, ⟨(some 45), none, .plain (.buildSlice ⟨4, 64, [(.slice none 0 0), (.int .i64 0), (.int .i64 0), (.slice none 0 0)]⟩ 1 [(0, (.tmp 44))])⟩, [], []⟩,
 ⟨14, .chain, 0, ⟨(some 46), none, .plain (.append ⟨4, 64, [(.slice none 0 0), (.int .i64 0), (.int .i64 0), (.slice none 0 0)]⟩ false (.tmp 33) (.tmp 45))⟩, [], []⟩,
 ⟨15, .pure, 0, ⟨(some 47), none, .plain (.faddr 4 (.tmp 3))⟩, [], []⟩,
 ⟨16, .chain, 0, ⟨none, none, .plain (.store 1 (.tmp 47) (.tmp 46))⟩, [], []⟩])))
 (.seq [⟨(some 25), none, .plain (.mov (.tmp 4))⟩,
 ⟨(some 26), none, .plain (.bin .add (.tmp 25) (.const (.int .i64 1)))⟩,
 ⟨(some 4), none, .plain (.mov (.tmp 26))⟩]))))))
 (.both (.seq [⟨(some 48), none, .plain (.load (some 7) (.tmp 3))⟩,
 ⟨none, none, .plain (.store 7 (.tmp 2) (.tmp 48))⟩])
 .ret))))⟩
/-- fettle/fettlelaw14.spoilt -/
def a20 : AFunc := ⟨2, [.tmp 4, .tmp 5],
 (.both (.seq [⟨(some 2), none, .plain (.box (.tmp 0))⟩,
 ⟨(some 4), none, .plain (.mov (.const (.slice none 0 0)))⟩,
 ⟨(some 5), none, .plain (.mov (.const (.bool false)))⟩])
 (.both (.both (.seq [⟨(some 10), none, .plain (.load (some 22) (.tmp 2))⟩,
 ⟨(some 11), none, .call 15 [(.tmp 10)]⟩,
 ⟨(some 12), none, .plain (.un .not (.tmp 11))⟩,
 ⟨(some 13), none, .plain (.mov (.tmp 12))⟩,
 ⟨(some 14), (some (13, false)), .plain (.load (some 22) (.tmp 2))⟩,
 ⟨(some 15), (some (13, false)), .call 19 [(.tmp 14)]⟩,
 ⟨(some 16), (some (13, false)), .call 18 [(.tmp 15)]⟩,
 ⟨(some 17), (some (13, false)), .plain (.bin .neq (.tmp 16) (.const (.int .i64 0)))⟩,
 ⟨(some 18), none, .plain (.pick (.tmp 13) (.const (.bool true)) (.tmp 17))⟩,
 ⟨(some 19), none, .plain (.mov (.tmp 18))⟩,
 ⟨(some 20), (some (19, false)), .plain (.faddr 0 (.tmp 2))⟩,
 ⟨(some 21), (some (19, false)), .plain (.load none (.tmp 20))⟩,
 ⟨(some 22), (some (19, false)), .plain (.bin .gtr (.tmp 21) (.const (.int .i64 300)))⟩,
 ⟨(some 23), none, .plain (.pick (.tmp 19) (.const (.bool true)) (.tmp 22))⟩,
 ⟨(some 24), none, .plain (.mov (.tmp 23))⟩,
 ⟨(some 25), (some (24, false)), .plain (.mov (.tmp 1))⟩,
 ⟨(some 26), (some (24, false)), .plain (.len .sl (.tmp 25))⟩,
 ⟨(some 27), (some (24, false)), .plain (.bin .gtr (.tmp 26) (.const (.int .i64 6)))⟩,
 ⟨(some 28), none, .plain (.pick (.tmp 24) (.const (.bool true)) (.tmp 27))⟩])
 (.cond (.tmp 28)
 (.both (.seq [⟨(some 4), none, .plain (.mov (.const (.slice none 0 0)))⟩,
 ⟨(some 5), none, .plain (.mov (.const (.bool false)))⟩])
 .ret)
 .skip))
 (.both (.draw 0 [⟨0, .pure, 0, ⟨(some 29), none, .plain (.faddr 0 (.tmp 2))⟩, [], []⟩,
 ⟨1, .read, 0, ⟨(some 30), none, .plain (.load none (.tmp 29))⟩, [], []⟩,
 ⟨2, .pure, 0, ⟨(some 31), none, .plain (.bin .mul (.const (.int .i64 512)) (.tmp 30))⟩, [], []⟩,
 ⟨4, .read, 0, ⟨(some 33), none, .plain (.load (some 22) (.tmp 2))⟩, [], []⟩,
 ⟨3, .chain, 0, ⟨(some 32), none, .call 25 [(.tmp 31)]⟩, [4], []⟩,
 ⟨5, .chain, 0, ⟨(some 34), none, .call 19 [(.tmp 33)]⟩, [], []⟩,
 ⟨6, .chain, 0, ⟨(some 35), none, .call 26 [(.tmp 32), (.tmp 34)]⟩, [], []⟩,
 ⟨7, .pure, 0, ⟨(some 6), none, .plain (.mov (.tmp 35))⟩, [], []⟩])
 (.both (.both (.seq [⟨(some 7), none, .plain (.mov (.const (.int .i64 0)))⟩])
 (.block 0 (.loop (.both (.both (.seq [⟨(some 36), none, .plain (.mov (.tmp 7))⟩,
 ⟨(some 37), none, .plain (.mov (.tmp 1))⟩,
 ⟨(some 38), none, .plain (.len .sl (.tmp 37))⟩,
 ⟨(some 39), none, .plain (.bin .lss (.tmp 36) (.tmp 38))⟩])
 (.cond (.tmp 39)
 .skip
 (.exit 0)))
 (.both (.block 1 (.both (.seq [⟨(some 42), none, .plain (.mov (.tmp 1))⟩,
 ⟨(some 43), none, .plain (.mov (.tmp 7))⟩,
 ⟨(some 44), none, .plain (.iaddr none 3 (.tmp 42) (.tmp 43))⟩,
 ⟨(some 45), none, .plain (.faddr 0 (.tmp 44))⟩,
 ⟨(some 46), none, .plain (.load none (.tmp 45))⟩,
 ⟨(some 47), none, .plain (.conv (.int .u64) (.tmp 46))⟩,
 ⟨(some 48), none, .plain (.mov (.tmp 6))⟩,
 ⟨(some 49), none, .plain (.len .sl (.tmp 48))⟩,
 ⟨(some 50), none, .plain (.conv (.int .u64) (.tmp 49))⟩,
 ⟨(some 51), none, .plain (.bin .rem (.tmp 47) (.tmp 50))⟩,
 ⟨(some 52), none, .plain (.conv (.int .i64) (.tmp 51))⟩,
 ⟨(some 8), none, .plain (.mov (.tmp 52))⟩])
 (.both (.seq [⟨(some 53), none, .plain (.mov (.tmp 1))⟩,
 ⟨(some 54), none, .plain (.mov (.tmp 7))⟩,
 ⟨(some 55), none, .plain (.iaddr none 3 (.tmp 53) (.tmp 54))⟩,
 ⟨(some 56), none, .plain (.faddr 1 (.tmp 55))⟩,
 ⟨(some 57), none, .plain (.load none (.tmp 56))⟩,
 ⟨(some 9), none, .plain (.mov (.tmp 57))⟩])
 (.both (.both (.seq [⟨(some 58), none, .plain (.mov (.tmp 9))⟩,
 ⟨(some 59), none, .plain (.len .sl (.tmp 58))⟩,
 ⟨(some 60), none, .plain (.mov (.tmp 6))⟩,
 ⟨(some 61), none, .plain (.len .sl (.tmp 60))⟩,
 ⟨(some 62), none, .plain (.mov (.tmp 8))⟩,
 ⟨(some 63), none, .plain (.bin .sub (.tmp 61) (.tmp 62))⟩,
 ⟨(some 64), none, .plain (.bin .gtr (.tmp 59) (.tmp 63))⟩])
 (.cond (.tmp 64)
 (.seq [⟨(some 65), none, .plain (.mov (.tmp 9))⟩,
 ⟨(some 66), none, .plain (.mov (.tmp 6))⟩,
 ⟨(some 67), none, .plain (.len .sl (.tmp 66))⟩,
 ⟨(some 68), none, .plain (.mov (.tmp 8))⟩,
 ⟨(some 69), none, .plain (.bin .sub (.tmp 67) (.tmp 68))⟩,
 ⟨(some 70), none, .plain (.cut (.sl 1) (.tmp 65) none (some (.tmp 69)) none)⟩,
 ⟨(some 9), none, .plain (.mov (.tmp 70))⟩])
 .skip))
 (.both (.seq [⟨(some 71), none, .plain (.mov (.tmp 6))⟩,
 ⟨(some 72), none, .plain (.mov (.tmp 8))⟩,
 ⟨(some 73), none, .plain (.mov (.tmp 9))⟩,
 ⟨(some 74), none, .call 27 [(.tmp 71), (.tmp 72), (.tmp 73)]⟩,
 ⟨(some 6), none, .plain (.mov (.tmp 74))⟩])
 (.both (.seq [⟨(some 75), none, .plain (.mov (.tmp 1))⟩,
 ⟨(some 76), none, .plain (.mov (.tmp 7))⟩,
 ⟨(some 77), none, .plain (.iaddr none 3 (.tmp 75) (.tmp 76))⟩,
 ⟨(some 78), none, .plain (.faddr 2 (.tmp 77))⟩,
 ⟨(some 79), none, .plain (.load none (.tmp 78))⟩])
 (.cond (.tmp 79)
 (.both (.seq [⟨(some 80), none, .plain (.mov (.tmp 6))⟩,
 ⟨(some 81), none, .call 48 [(.tmp 80), (.const (.int .i64 512))]⟩,
 ⟨(some 6), none, .plain (.mov (.tmp 81))⟩])
 (.seq [⟨(some 82), none, .plain (.mov (.tmp 6))⟩,
 ⟨(some 83), none, .plain (.mov (.tmp 6))⟩,
 ⟨(some 84), none, .plain (.len .sl (.tmp 83))⟩,
 ⟨(some 85), none, .plain (.bin .sub (.tmp 84) (.const (.int .i64 512)))⟩,
 ⟨(some 86), none, .call 48 [(.tmp 82), (.tmp 85)]⟩,
 ⟨(some 6), none, .plain (.mov (.tmp 86))⟩]))
 .skip)))))))
 (.seq [⟨(some 40), none, .plain (.mov (.tmp 7))⟩,
 ⟨(some 41), none, .plain (.bin .add (.tmp 40) (.const (.int .i64 1)))⟩,
 ⟨(some 7), none, .plain (.mov (.tmp 41))⟩]))))))
 (.both (.seq [⟨(some 87), none, .plain (.mov (.tmp 6))⟩,
 ⟨(some 4), none, .plain (.mov (.tmp 87))⟩,
 ⟨(some 5), none, .plain (.mov (.const (.bool true)))⟩])
 .ret)))))⟩
/-- fettle/gpt.Parse -/
def a21 : AFunc := ⟨1, [.cell 2 (some 22), .tmp 3],
 (.both (.seq [⟨(some 2), none, .plain (.alloc [(.int .i64 0), (.int .i64 0), (.int .i64 0), (.int .u8 0), (.int .u8 0), (.int .u8 0), (.int .u8 0), (.int .u8 0), (.int .u8 0), (.int .u8 0), (.int .u8 0), (.int .u8 0), (.int .u8 0), (.int .u8 0), (.int .u8 0), (.int .u8 0), (.int .u8 0), (.int .u8 0), (.int .u8 0), (.slice none 0 0), (.int .i64 0), (.int .i64 0)])⟩,
 ⟨(some 3), none, .plain (.mov (.const (.int .i64 0)))⟩])
 (.both (.both (.seq [⟨(some 18), none, .plain (.mov (.tmp 0))⟩,
 ⟨(some 19), none, .plain (.eqN false .iface true (.tmp 18) (.const .nilIface))⟩])
 (.cond (.tmp 19)
 (.both (.seq [⟨(some 20), none, .plain (.build (.str [(.int .i64 0), (.int .i64 0), (.int .i64 0), (.int .u8 0), (.int .u8 0), (.int .u8 0), (.int .u8 0), (.int .u8 0), (.int .u8 0), (.int .u8 0), (.int .u8 0), (.int .u8 0), (.int .u8 0), (.int .u8 0), (.int .u8 0), (.int .u8 0), (.int .u8 0), (.int .u8 0), (.int .u8 0), (.slice none 0 0), (.int .i64 0), (.int .i64 0)] [(0, 1), (1, 1), (2, 1), (3, 16), (19, 1), (20, 1), (21, 1)]) [])⟩,
 ⟨none, none, .plain (.store 22 (.tmp 2) (.tmp 20))⟩,
 ⟨(some 3), none, .plain (.mov (.const (.int .i64 2)))⟩])
 .ret)
 .skip))
 (.both (.seq [⟨(some 21), none, .plain (.mov (.tmp 0))⟩,
 ⟨(some 22), none, .invoke (.tmp 21) [(17, 126), (42, 130)] []⟩,
 ⟨(some 23), none, .plain (.bin .quo (.tmp 22) (.const (.int .i64 512)))⟩,
 ⟨(some 4), none, .plain (.mov (.tmp 23))⟩])
 (.both (.both (.seq [⟨(some 24), none, .plain (.mov (.tmp 4))⟩,
 ⟨(some 25), none, .plain (.bin .lss (.tmp 24) (.const (.int .i64 6)))⟩,
 ⟨(some 26), none, .plain (.mov (.tmp 25))⟩,
 ⟨(some 27), (some (26, false)), .plain (.mov (.tmp 0))⟩,
 ⟨(some 28), (some (26, false)), .invoke (.tmp 27) [(17, 126), (42, 130)] []⟩,
 ⟨(some 29), (some (26, false)), .plain (.bin .rem (.tmp 28) (.const (.int .i64 512)))⟩,
 ⟨(some 30), (some (26, false)), .plain (.bin .neq (.tmp 29) (.const (.int .i64 0)))⟩,
 ⟨(some 31), none, .plain (.pick (.tmp 26) (.const (.bool true)) (.tmp 30))⟩])
 (.cond (.tmp 31)
 (.both (.seq [⟨(some 32), none, .plain (.build (.str [(.int .i64 0), (.int .i64 0), (.int .i64 0), (.int .u8 0), (.int .u8 0), (.int .u8 0), (.int .u8 0), (.int .u8 0), (.int .u8 0), (.int .u8 0), (.int .u8 0), (.int .u8 0), (.int .u8 0), (.int .u8 0), (.int .u8 0), (.int .u8 0), (.int .u8 0), (.int .u8 0), (.int .u8 0), (.slice none 0 0), (.int .i64 0), (.int .i64 0)] [(0, 1), (1, 1), (2, 1), (3, 16), (19, 1), (20, 1), (21, 1)]) [])⟩,
 ⟨none, none, .plain (.store 22 (.tmp 2) (.tmp 32))⟩,
 ⟨(some 3), none, .plain (.mov (.const (.int .i64 4)))⟩])
 .ret)
 .skip))
 (.both (.seq [⟨(some 34), none, .plain (.mov (.tmp 0))⟩,
 ⟨(some 35), none, .invoke (.tmp 34) [(42, 129)] [(.const (.int .i64 512)), (.const (.int .i64 512))]⟩,
 ⟨(some 33), none, .plain (.mov (.tmp 35))⟩,
 ⟨(some 36), none, .plain (.extract (.tmp 33) 0)⟩,
 ⟨(some 37), none, .plain (.extract (.tmp 33) 1)⟩,
 ⟨(some 5), none, .plain (.mov (.tmp 36))⟩,
 ⟨(some 6), none, .plain (.mov (.tmp 37))⟩])
 (.both (.both (.seq [⟨(some 38), none, .plain (.mov (.tmp 6))⟩,
 ⟨(some 39), none, .plain (.bin .neq (.tmp 38) (.const (.int .i64 0)))⟩])
 (.cond (.tmp 39)
 (.both (.seq [⟨(some 40), none, .plain (.build (.str [(.int .i64 0), (.int .i64 0), (.int .i64 0), (.int .u8 0), (.int .u8 0), (.int .u8 0), (.int .u8 0), (.int .u8 0), (.int .u8 0), (.int .u8 0), (.int .u8 0), (.int .u8 0), (.int .u8 0), (.int .u8 0), (.int .u8 0), (.int .u8 0), (.int .u8 0), (.int .u8 0), (.int .u8 0), (.slice none 0 0), (.int .i64 0), (.int .i64 0)] [(0, 1), (1, 1), (2, 1), (3, 16), (19, 1), (20, 1), (21, 1)]) [])⟩,
 ⟨(some 41), none, .plain (.mov (.tmp 6))⟩,
 ⟨none, none, .plain (.store 22 (.tmp 2) (.tmp 40))⟩,
 ⟨(some 3), none, .plain (.mov (.tmp 41))⟩])
 .ret)
 .skip))
 (.both (.seq [⟨(some 43), none, .plain (.mov (.tmp 5))⟩,
 ⟨(some 44), none, .call 49 [(.tmp 43)]⟩,
 ⟨(some 42), none, .plain (.mov (.tmp 44))⟩,
 ⟨(some 45), none, .plain (.extract (.tmp 42) 0)⟩,
 ⟨(some 46), none, .plain (.extract (.tmp 42) 1)⟩,
 ⟨(some 47), none, .plain (.extract (.tmp 42) 2)⟩,
 ⟨(some 48), none, .plain (.extract (.tmp 42) 3)⟩,
 ⟨(some 49), none, .plain (.extract (.tmp 42) 4)⟩,
 ⟨(some 50), none, .plain (.extract (.tmp 42) 5)⟩,
 ⟨(some 7), none, .plain (.alloc [(.int .i64 0), (.int .i64 0), (.int .i64 0), (.int .u8 0), (.int .u8 0), (.int .u8 0), (.int .u8 0), (.int .u8 0), (.int .u8 0), (.int .u8 0), (.int .u8 0), (.int .u8 0), (.int .u8 0), (.int .u8 0), (.int .u8 0), (.int .u8 0), (.int .u8 0), (.int .u8 0), (.int .u8 0), (.slice none 0 0), (.int .i64 0), (.int .i64 0)])⟩,
 ⟨none, none, .plain (.store 22 (.tmp 7) (.tmp 45))⟩,
 ⟨(some 8), none, .plain (.mov (.tmp 46))⟩,
 ⟨(some 9), none, .plain (.mov (.tmp 47))⟩,
 ⟨(some 10), none, .plain (.mov (.tmp 48))⟩,
 ⟨(some 11), none, .plain (.mov (.tmp 49))⟩,
 ⟨(some 6), none, .plain (.mov (.tmp 50))⟩])
 (.both (.both (.seq [⟨(some 51), none, .plain (.mov (.tmp 6))⟩,
 ⟨(some 52), none, .plain (.bin .neq (.tmp 51) (.const (.int .i64 0)))⟩])
 (.cond (.tmp 52)
 (.both (.seq [⟨(some 53), none, .plain (.build (.str [(.int .i64 0), (.int .i64 0), (.int .i64 0), (.int .u8 0), (.int .u8 0), (.int .u8 0), (.int .u8 0), (.int .u8 0), (.int .u8 0), (.int .u8 0), (.int .u8 0), (.int .u8 0), (.int .u8 0), (.int .u8 0), (.int .u8 0), (.int .u8 0), (.int .u8 0), (.int .u8 0), (.int .u8 0), (.slice none 0 0), (.int .i64 0), (.int .i64 0)] [(0, 1), (1, 1), (2, 1), (3, 16), (19, 1), (20, 1), (21, 1)]) [])⟩,
 ⟨(some 54), none, .plain (.mov (.tmp 6))⟩,
 ⟨none, none, .plain (.store 22 (.tmp 2) (.tmp 53))⟩,
 ⟨(some 3), none, .plain (.mov (.tmp 54))⟩])
 .ret)
 .skip))
 (.both (.seq [⟨(some 56), none, .plain (.mov (.tmp 0))⟩,
 ⟨(some 57), none, .plain (.mov (.tmp 4))⟩,
 ⟨(some 58), none, .plain (.bin .sub (.tmp 57) (.const (.int .i64 1)))⟩,
 ⟨(some 59), none, .plain (.bin .mul (.tmp 58) (.const (.int .i64 512)))⟩,
 ⟨(some 60), none, .invoke (.tmp 56) [(42, 129)] [(.tmp 59), (.const (.int .i64 512))]⟩,
 ⟨(some 55), none, .plain (.mov (.tmp 60))⟩,
 ⟨(some 61), none, .plain (.extract (.tmp 55) 0)⟩,
 ⟨(some 62), none, .plain (.extract (.tmp 55) 1)⟩,
 ⟨(some 5), none, .plain (.mov (.tmp 61))⟩,
 ⟨(some 6), none, .plain (.mov (.tmp 62))⟩])
 (.both (.both (.seq [⟨(some 63), none, .plain (.mov (.tmp 6))⟩,
 ⟨(some 64), none, .plain (.bin .neq (.tmp 63) (.const (.int .i64 0)))⟩])
 (.cond (.tmp 64)
 (.both (.seq [⟨(some 65), none, .plain (.build (.str [(.int .i64 0), (.int .i64 0), (.int .i64 0), (.int .u8 0), (.int .u8 0), (.int .u8 0), (.int .u8 0), (.int .u8 0), (.int .u8 0), (.int .u8 0), (.int .u8 0), (.int .u8 0), (.int .u8 0), (.int .u8 0), (.int .u8 0), (.int .u8 0), (.int .u8 0), (.int .u8 0), (.int .u8 0), (.slice none 0 0), (.int .i64 0), (.int .i64 0)] [(0, 1), (1, 1), (2, 1), (3, 16), (19, 1), (20, 1), (21, 1)]) [])⟩,
 ⟨(some 66), none, .plain (.mov (.tmp 6))⟩,
 ⟨none, none, .plain (.store 22 (.tmp 2) (.tmp 65))⟩,
 ⟨(some 3), none, .plain (.mov (.tmp 66))⟩])
 .ret)
 .skip))
 (.both (.seq [⟨(some 68), none, .plain (.mov (.tmp 5))⟩,
 ⟨(some 69), none, .call 49 [(.tmp 68)]⟩,
 ⟨(some 67), none, .plain (.mov (.tmp 69))⟩,
 ⟨(some 70), none, .plain (.extract (.tmp 67) 0)⟩,
 ⟨(some 71), none, .plain (.extract (.tmp 67) 1)⟩,
 ⟨(some 72), none, .plain (.extract (.tmp 67) 2)⟩,
 ⟨(some 73), none, .plain (.extract (.tmp 67) 3)⟩,
 ⟨(some 74), none, .plain (.extract (.tmp 67) 4)⟩,
 ⟨(some 75), none, .plain (.extract (.tmp 67) 5)⟩,
 ⟨(some 12), none, .plain (.alloc [(.int .i64 0), (.int .i64 0), (.int .i64 0), (.int .u8 0), (.int .u8 0), (.int .u8 0), (.int .u8 0), (.int .u8 0), (.int .u8 0), (.int .u8 0), (.int .u8 0), (.int .u8 0), (.int .u8 0), (.int .u8 0), (.int .u8 0), (.int .u8 0), (.int .u8 0), (.int .u8 0), (.int .u8 0), (.slice none 0 0), (.int .i64 0), (.int .i64 0)])⟩,
 ⟨none, none, .plain (.store 22 (.tmp 12) (.tmp 70))⟩,
 ⟨(some 13), none, .plain (.mov (.tmp 71))⟩,
 ⟨(some 14), none, .plain (.mov (.tmp 72))⟩,
 ⟨(some 15), none, .plain (.mov (.tmp 73))⟩,
 ⟨(some 16), none, .plain (.mov (.tmp 74))⟩,
 ⟨(some 6), none, .plain (.mov (.tmp 75))⟩])
 (.both (.both (.seq [⟨(some 76), none, .plain (.mov (.tmp 6))⟩,
 ⟨(some 77), none, .plain (.bin .neq (.tmp 76) (.const (.int .i64 0)))⟩])
 (.cond (.tmp 77)
 (.both (.seq [⟨(some 78), none, .plain (.build (.str [(.int .i64 0), (.int .i64 0), (.int .i64 0), (.int .u8 0), (.int .u8 0), (.int .u8 0), (.int .u8 0), (.int .u8 0), (.int .u8 0), (.int .u8 0), (.int .u8 0), (.int .u8 0), (.int .u8 0), (.int .u8 0), (.int .u8 0), (.int .u8 0), (.int .u8 0), (.int .u8 0), (.int .u8 0), (.slice none 0 0), (.int .i64 0), (.int .i64 0)] [(0, 1), (1, 1), (2, 1), (3, 16), (19, 1), (20, 1), (21, 1)]) [])⟩,
 ⟨(some 79), none, .plain (.mov (.tmp 6))⟩,
 ⟨none, none, .plain (.store 22 (.tmp 2) (.tmp 78))⟩,
 ⟨(some 3), none, .plain (.mov (.tmp 79))⟩])
 .ret)
 .skip))
 (.both (.both (.seq [⟨(some 80), none, .plain (.mov (.tmp 10))⟩,
 ⟨(some 81), none, .plain (.bin .neq (.tmp 80) (.const (.int .i64 1)))⟩,
 ⟨(some 82), none, .plain (.mov (.tmp 81))⟩,
 ⟨(some 83), (some (82, false)), .plain (.mov (.tmp 11))⟩,
 ⟨(some 84), (some (82, false)), .plain (.mov (.tmp 4))⟩,
 ⟨(some 85), (some (82, false)), .plain (.bin .sub (.tmp 84) (.const (.int .i64 1)))⟩,
 ⟨(some 86), (some (82, false)), .plain (.bin .neq (.tmp 83) (.tmp 85))⟩,
 ⟨(some 87), none, .plain (.pick (.tmp 82) (.const (.bool true)) (.tmp 86))⟩,
 ⟨(some 88), none, .plain (.mov (.tmp 87))⟩,
 ⟨(some 89), (some (88, false)), .plain (.mov (.tmp 15))⟩,
 ⟨(some 90), (some (88, false)), .plain (.mov (.tmp 4))⟩,
 ⟨(some 91), (some (88, false)), .plain (.bin .sub (.tmp 90) (.const (.int .i64 1)))⟩,
 ⟨(some 92), (some (88, false)), .plain (.bin .neq (.tmp 89) (.tmp 91))⟩,
 ⟨(some 93), none, .plain (.pick (.tmp 88) (.const (.bool true)) (.tmp 92))⟩,
 ⟨(some 94), none, .plain (.mov (.tmp 93))⟩,
 ⟨(some 95), (some (94, false)), .plain (.mov (.tmp 16))⟩,
 ⟨(some 96), (some (94, false)), .plain (.bin .neq (.tmp 95) (.const (.int .i64 1)))⟩,
 ⟨(some 97), none, .plain (.pick (.tmp 94) (.const (.bool true)) (.tmp 96))⟩,
 ⟨(some 98), none, .plain (.mov (.tmp 97))⟩,
 ⟨(some 99), (some (98, false)), .plain (.mov (.tmp 8))⟩,
 ⟨(some 100), (some (98, false)), .plain (.mov (.tmp 13))⟩,
 ⟨(some 101), (some (98, false)), .plain (.bin .neq (.tmp 99) (.tmp 100))⟩,
 ⟨(some 102), none, .plain (.pick (.tmp 98) (.const (.bool true)) (.tmp 101))⟩,
 ⟨(some 103), none, .plain (.mov (.tmp 102))⟩,
 ⟨(some 104), (some (103, false)), .plain (.mov (.tmp 9))⟩,
 ⟨(some 105), (some (103, false)), .plain (.mov (.tmp 14))⟩,
 ⟨(some 106), (some (103, false)), .plain (.bin .neq (.tmp 104) (.tmp 105))⟩,
 ⟨(some 107), none, .plain (.pick (.tmp 103) (.const (.bool true)) (.tmp 106))⟩,
 ⟨(some 108), none, .plain (.mov (.tmp 107))⟩,
 ⟨(some 109), (some (108, false)), .plain (.faddr 1 (.tmp 7))⟩,
 ⟨(some 110), (some (108, false)), .plain (.load none (.tmp 109))⟩,
 ⟨(some 111), (some (108, false)), .plain (.faddr 1 (.tmp 12))⟩,
 ⟨(some 112), (some (108, false)), .plain (.load none (.tmp 111))⟩,
 ⟨(some 113), (some (108, false)), .plain (.bin .neq (.tmp 110) (.tmp 112))⟩,
 ⟨(some 114), none, .plain (.pick (.tmp 108) (.const (.bool true)) (.tmp 113))⟩,
 ⟨(some 115), none, .plain (.mov (.tmp 114))⟩,
 ⟨(some 116), (some (115, false)), .plain (.faddr 2 (.tmp 7))⟩,
 ⟨(some 117), (some (115, false)), .plain (.load none (.tmp 116))⟩,
 ⟨(some 118), (some (115, false)), .plain (.faddr 2 (.tmp 12))⟩,
 ⟨(some 119), (some (115, false)), .plain (.load none (.tmp 118))⟩,
 ⟨(some 120), (some (115, false)), .plain (.bin .neq (.tmp 117) (.tmp 119))⟩,
 ⟨(some 121), none, .plain (.pick (.tmp 115) (.const (.bool true)) (.tmp 120))⟩,
 ⟨(some 122), none, .plain (.mov (.tmp 121))⟩,
 ⟨(some 123), (some (122, false)), .plain (.faddr 3 (.tmp 7))⟩,
 ⟨(some 124), (some (122, false)), .plain (.load (some 16) (.tmp 123))⟩,
 ⟨(some 125), (some (122, false)), .plain (.faddr 3 (.tmp 12))⟩,
 ⟨(some 126), (some (122, false)), .plain (.load (some 16) (.tmp 125))⟩,
 ⟨(some 127), (some (122, false)), .plain (.eqA true [(0, .int), (1, .int), (2, .int), (3, .int), (4, .int), (5, .int), (6, .int), (7, .int), (8, .int), (9, .int), (10, .int), (11, .int), (12, .int), (13, .int), (14, .int), (15, .int)] (.tmp 124) (.tmp 126))⟩,
 ⟨(some 128), none, .plain (.pick (.tmp 122) (.const (.bool true)) (.tmp 127))⟩])
 (.cond (.tmp 128)
 (.both (.seq [⟨(some 129), none, .plain (.build (.str [(.int .i64 0), (.int .i64 0), (.int .i64 0), (.int .u8 0), (.int .u8 0), (.int .u8 0), (.int .u8 0), (.int .u8 0), (.int .u8 0), (.int .u8 0), (.int .u8 0), (.int .u8 0), (.int .u8 0), (.int .u8 0), (.int .u8 0), (.int .u8 0), (.int .u8 0), (.int .u8 0), (.int .u8 0), (.slice none 0 0), (.int .i64 0), (.int .i64 0)] [(0, 1), (1, 1), (2, 1), (3, 16), (19, 1), (20, 1), (21, 1)]) [])⟩,
 ⟨none, none, .plain (.store 22 (.tmp 2) (.tmp 129))⟩,
 ⟨(some 3), none, .plain (.mov (.const (.int .i64 11)))⟩])
 .ret)
 .skip))
 (.both (.draw 0 [⟨0, .pure, 0, ⟨(some 130), none, .plain (.mov (.tmp 4))⟩, [], []⟩,
 ⟨1, .pure, 0, ⟨(some 131), none, .plain (.faddr 20 (.tmp 12))⟩, [], []⟩,
 ⟨2, .read, 0, ⟨(some 132), none, .plain (.load none (.tmp 131))⟩, [], []⟩,
 ⟨3, .pure, 0, ⟨(some 133), none, .plain (.faddr 0 (.tmp 7))⟩, [], []⟩,
 ⟨4, .chain, 0, ⟨none, none, .plain (.store 1 (.tmp 133) (.tmp 130))⟩, [2], []⟩,
 ⟨5, .pure, 0, ⟨(some 134), none, .plain (.faddr 21 (.tmp 7))⟩, [], []⟩,
 ⟨6, .chain, 0, ⟨none, none, .plain (.store 1 (.tmp 134) (.tmp 132))⟩, [], []⟩])
 (.both (.both (.seq [⟨(some 136), none, .plain (.mov (.tmp 0))⟩,
 ⟨(some 137), none, .plain (.faddr 20 (.tmp 7))⟩,
 ⟨(some 138), none, .plain (.load none (.tmp 137))⟩,
 ⟨(some 139), none, .plain (.mov (.tmp 8))⟩,
 ⟨(some 140), none, .plain (.mov (.tmp 9))⟩,
 ⟨(some 141), none, .call 50 [(.tmp 136), (.tmp 138), (.tmp 139), (.tmp 140)]⟩,
 ⟨(some 135), none, .plain (.mov (.tmp 141))⟩,
 ⟨(some 142), none, .plain (.extract (.tmp 135) 0)⟩,
 ⟨(some 143), none, .plain (.extract (.tmp 135) 1)⟩,
 ⟨(some 144), none, .plain (.faddr 19 (.tmp 7))⟩,
 ⟨none, none, .plain (.store 1 (.tmp 144) (.tmp 142))⟩,
 ⟨(some 6), none, .plain (.mov (.tmp 143))⟩])
 (.both (.seq [⟨(some 145), none, .plain (.mov (.tmp 6))⟩,
 ⟨(some 146), none, .plain (.bin .neq (.tmp 145) (.const (.int .i64 0)))⟩])
 (.cond (.tmp 146)
 (.both (.seq [⟨(some 147), none, .plain (.build (.str [(.int .i64 0), (.int .i64 0), (.int .i64 0), (.int .u8 0), (.int .u8 0), (.int .u8 0), (.int .u8 0), (.int .u8 0), (.int .u8 0), (.int .u8 0), (.int .u8 0), (.int .u8 0), (.int .u8 0), (.int .u8 0), (.int .u8 0), (.int .u8 0), (.int .u8 0), (.int .u8 0), (.int .u8 0), (.slice none 0 0), (.int .i64 0), (.int .i64 0)] [(0, 1), (1, 1), (2, 1), (3, 16), (19, 1), (20, 1), (21, 1)]) [])⟩,
 ⟨(some 148), none, .plain (.mov (.tmp 6))⟩,
 ⟨none, none, .plain (.store 22 (.tmp 2) (.tmp 147))⟩,
 ⟨(some 3), none, .plain (.mov (.tmp 148))⟩])
 .ret)
 .skip)))
 (.both (.both (.seq [⟨(some 150), none, .plain (.mov (.tmp 0))⟩,
 ⟨(some 151), none, .plain (.faddr 21 (.tmp 7))⟩,
 ⟨(some 152), none, .plain (.load none (.tmp 151))⟩,
 ⟨(some 153), none, .plain (.mov (.tmp 8))⟩,
 ⟨(some 154), none, .plain (.mov (.tmp 9))⟩,
 ⟨(some 155), none, .call 50 [(.tmp 150), (.tmp 152), (.tmp 153), (.tmp 154)]⟩,
 ⟨(some 149), none, .plain (.mov (.tmp 155))⟩,
 ⟨(some 156), none, .plain (.extract (.tmp 149) 0)⟩,
 ⟨(some 157), none, .plain (.extract (.tmp 149) 1)⟩,
 ⟨(some 6), none, .plain (.mov (.tmp 157))⟩])
 (.both (.seq [⟨(some 158), none, .plain (.mov (.tmp 6))⟩,
 ⟨(some 159), none, .plain (.bin .neq (.tmp 158) (.const (.int .i64 0)))⟩])
 (.cond (.tmp 159)
 (.both (.seq [⟨(some 160), none, .plain (.build (.str [(.int .i64 0), (.int .i64 0), (.int .i64 0), (.int .u8 0), (.int .u8 0), (.int .u8 0), (.int .u8 0), (.int .u8 0), (.int .u8 0), (.int .u8 0), (.int .u8 0), (.int .u8 0), (.int .u8 0), (.int .u8 0), (.int .u8 0), (.int .u8 0), (.int .u8 0), (.int .u8 0), (.int .u8 0), (.slice none 0 0), (.int .i64 0), (.int .i64 0)] [(0, 1), (1, 1), (2, 1), (3, 16), (19, 1), (20, 1), (21, 1)]) [])⟩,
 ⟨(some 161), none, .plain (.mov (.tmp 6))⟩,
 ⟨none, none, .plain (.store 22 (.tmp 2) (.tmp 160))⟩,
 ⟨(some 3), none, .plain (.mov (.tmp 161))⟩])
 .ret)
 .skip)))
 (.both (.both (.seq [⟨(some 162), none, .plain (.load (some 22) (.tmp 7))⟩,
 ⟨(some 163), none, .call 17 [(.tmp 162)]⟩,
 ⟨(some 17), none, .plain (.mov (.tmp 163))⟩])
 (.both (.seq [⟨(some 164), none, .plain (.mov (.tmp 17))⟩,
 ⟨(some 165), none, .plain (.bin .neq (.tmp 164) (.const (.int .i64 0)))⟩])
 (.cond (.tmp 165)
 (.both (.seq [⟨(some 166), none, .plain (.build (.str [(.int .i64 0), (.int .i64 0), (.int .i64 0), (.int .u8 0), (.int .u8 0), (.int .u8 0), (.int .u8 0), (.int .u8 0), (.int .u8 0), (.int .u8 0), (.int .u8 0), (.int .u8 0), (.int .u8 0), (.int .u8 0), (.int .u8 0), (.int .u8 0), (.int .u8 0), (.int .u8 0), (.int .u8 0), (.slice none 0 0), (.int .i64 0), (.int .i64 0)] [(0, 1), (1, 1), (2, 1), (3, 16), (19, 1), (20, 1), (21, 1)]) [])⟩,
 ⟨(some 167), none, .plain (.mov (.tmp 17))⟩,
 ⟨none, none, .plain (.store 22 (.tmp 2) (.tmp 166))⟩,
 ⟨(some 3), none, .plain (.mov (.tmp 167))⟩])
 .ret)
 .skip)))
 (.both (.seq [⟨(some 168), none, .plain (.load (some 22) (.tmp 7))⟩,
 ⟨none, none, .plain (.store 22 (.tmp 2) (.tmp 168))⟩,
 ⟨(some 3), none, .plain (.mov (.const (.int .i64 0)))⟩])
 .ret))))))))))))))))))⟩
/-- fettle/fettleref14.Parse -/
def a22 : AFunc := ⟨1, [.cell 2 (some 7), .tmp 3],
 (.both (.seq [⟨(some 2), none, .plain (.alloc [(.int .i64 0), (.int .i64 0), (.int .i64 0), (.slice none 0 0), (.slice none 0 0), (.int .i64 0), (.int .i64 0)])⟩,
 ⟨(some 3), none, .plain (.mov (.const (.int .i64 0)))⟩])
 (.both (.seq [⟨(some 10), none, .plain (.mov (.tmp 0))⟩,
 ⟨(some 11), none, .plain (.len .sl (.tmp 10))⟩,
 ⟨(some 12), none, .plain (.bin .quo (.tmp 11) (.const (.int .i64 512)))⟩,
 ⟨(some 4), none, .plain (.mov (.tmp 12))⟩])
 (.both (.both (.seq [⟨(some 13), none, .plain (.mov (.tmp 4))⟩,
 ⟨(some 14), none, .plain (.bin .lss (.tmp 13) (.const (.int .i64 6)))⟩,
 ⟨(some 15), none, .plain (.mov (.tmp 14))⟩,
 ⟨(some 16), (some (15, false)), .plain (.mov (.tmp 0))⟩,
 ⟨(some 17), (some (15, false)), .plain (.len .sl (.tmp 16))⟩,
 ⟨(some 18), (some (15, false)), .plain (.bin .rem (.tmp 17) (.const (.int .i64 512)))⟩,
 ⟨(some 19), (some (15, false)), .plain (.bin .neq (.tmp 18) (.const (.int .i64 0)))⟩,
 ⟨(some 20), none, .plain (.pick (.tmp 15) (.const (.bool true)) (.tmp 19))⟩])
 (.cond (.tmp 20)
 (.both (.seq [⟨(some 21), none, .plain (.build (.str [(.int .i64 0), (.int .i64 0), (.int .i64 0), (.slice none 0 0), (.slice none 0 0), (.int .i64 0), (.int .i64 0)] [(0, 1), (1, 1), (2, 1), (3, 1), (4, 1), (5, 1), (6, 1)]) [])⟩,
 ⟨none, none, .plain (.store 7 (.tmp 2) (.tmp 21))⟩,
 ⟨(some 3), none, .plain (.mov (.const (.int .i64 4)))⟩])
 .ret)
 .skip))
 (.both (.seq [⟨(some 23), none, .plain (.mov (.tmp 0))⟩,
 ⟨(some 24), none, .plain (.cut (.sl 1) (.tmp 23) (some (.const (.int .i64 512))) (some (.const (.int .i64 1024))) none)⟩,
 ⟨(some 25), none, .call 51 [(.tmp 24)]⟩,
 ⟨(some 22), none, .plain (.mov (.tmp 25))⟩,
 ⟨(some 26), none, .plain (.extract (.tmp 22) 0)⟩,
 ⟨(some 27), none, .plain (.extract (.tmp 22) 1)⟩,
 ⟨(some 28), none, .plain (.extract (.tmp 22) 2)⟩,
 ⟨(some 5), none, .plain (.alloc [(.int .i64 0), (.int .i64 0), (.int .i64 0), (.slice none 0 0), (.slice none 0 0), (.int .i64 0), (.int .i64 0)])⟩,
 ⟨none, none, .plain (.store 7 (.tmp 5) (.tmp 26))⟩,
 ⟨(some 6), none, .plain (.mov (.tmp 27))⟩,
 ⟨(some 7), none, .plain (.mov (.tmp 28))⟩])
 (.both (.both (.seq [⟨(some 29), none, .plain (.mov (.tmp 7))⟩,
 ⟨(some 30), none, .plain (.bin .neq (.tmp 29) (.const (.int .i64 0)))⟩])
 (.cond (.tmp 30)
 (.both (.seq [⟨(some 31), none, .plain (.build (.str [(.int .i64 0), (.int .i64 0), (.int .i64 0), (.slice none 0 0), (.slice none 0 0), (.int .i64 0), (.int .i64 0)] [(0, 1), (1, 1), (2, 1), (3, 1), (4, 1), (5, 1), (6, 1)]) [])⟩,
 ⟨(some 32), none, .plain (.mov (.tmp 7))⟩,
 ⟨none, none, .plain (.store 7 (.tmp 2) (.tmp 31))⟩,
 ⟨(some 3), none, .plain (.mov (.tmp 32))⟩])
 .ret)
 .skip))
 (.both (.seq [⟨(some 34), none, .plain (.mov (.tmp 0))⟩,
 ⟨(some 35), none, .plain (.mov (.tmp 4))⟩,
 ⟨(some 36), none, .plain (.bin .sub (.tmp 35) (.const (.int .i64 1)))⟩,
 ⟨(some 37), none, .plain (.bin .mul (.tmp 36) (.const (.int .i64 512)))⟩,
 ⟨(some 38), none, .plain (.cut (.sl 1) (.tmp 34) (some (.tmp 37)) none none)⟩,
 ⟨(some 39), none, .call 51 [(.tmp 38)]⟩,
 ⟨(some 33), none, .plain (.mov (.tmp 39))⟩,
 ⟨(some 40), none, .plain (.extract (.tmp 33) 0)⟩,
 ⟨(some 41), none, .plain (.extract (.tmp 33) 1)⟩,
 ⟨(some 42), none, .plain (.extract (.tmp 33) 2)⟩,
 ⟨(some 8), none, .plain (.alloc [(.int .i64 0), (.int .i64 0), (.int .i64 0), (.slice none 0 0), (.slice none 0 0), (.int .i64 0), (.int .i64 0)])⟩,
 ⟨none, none, .plain (.store 7 (.tmp 8) (.tmp 40))⟩,
 ⟨(some 9), none, .plain (.mov (.tmp 41))⟩,
 ⟨(some 7), none, .plain (.mov (.tmp 42))⟩])
 (.both (.both (.seq [⟨(some 43), none, .plain (.mov (.tmp 7))⟩,
 ⟨(some 44), none, .plain (.bin .neq (.tmp 43) (.const (.int .i64 0)))⟩])
 (.cond (.tmp 44)
 (.both (.seq [⟨(some 45), none, .plain (.build (.str [(.int .i64 0), (.int .i64 0), (.int .i64 0), (.slice none 0 0), (.slice none 0 0), (.int .i64 0), (.int .i64 0)] [(0, 1), (1, 1), (2, 1), (3, 1), (4, 1), (5, 1), (6, 1)]) [])⟩,
 ⟨(some 46), none, .plain (.mov (.tmp 7))⟩,
 ⟨none, none, .plain (.store 7 (.tmp 2) (.tmp 45))⟩,
 ⟨(some 3), none, .plain (.mov (.tmp 46))⟩])
 .ret)
 .skip))
 (.both (.both (.draw 0 [⟨0, .pure, 0, ⟨(some 47), none, .plain (.mov (.tmp 6))⟩, [], []⟩,
 ⟨1, .pure, 0, ⟨(some 48), none, .plain (.iaddr none 1 (.tmp 47) (.const (.int .i64 2)))⟩, [], []⟩,
 ⟨2, .read, 0, ⟨(some 49), none, .plain (.load none (.tmp 48))⟩, [], []⟩,
 ⟨3, .pure, 0, ⟨(some 50), none, .plain (.bin .neq (.tmp 49) (.const (.int .i64 1)))⟩, [], []⟩,
 ⟨4, .pure, 0, ⟨(some 51), none, .plain (.mov (.tmp 50))⟩, [], []⟩,
 ⟨5, .pure, 0, ⟨(some 52), (some (51, false)), .plain (.mov (.tmp 6))⟩, [], []⟩,
 ⟨6, .pure, 0, ⟨(some 53), (some (51, false)), .plain (.iaddr none 1 (.tmp 52) (.const (.int .i64 3)))⟩, [], []⟩,
 ⟨7, .read, 0, ⟨(some 54), (some (51, false)), .plain (.load none (.tmp 53))⟩, [], []⟩,
 ⟨8, .pure, 0, ⟨(some 55), (some (51, false)), .plain (.mov (.tmp 4))⟩, [], []⟩,
 ⟨9, .pure, 0, ⟨(some 56), (some (51, false)), .plain (.bin .sub (.tmp 55) (.const (.int .i64 1)))⟩, [], []⟩,
 ⟨10, .pure, 0, ⟨(some 57), (some (51, false)), .plain (.bin .neq (.tmp 54) (.tmp 56))⟩, [], []⟩,
 ⟨11, .pure, 0, ⟨(some 58), none, .plain (.pick (.tmp 51) (.const (.bool true)) (.tmp 57))⟩, [], []⟩,
 ⟨12, .pure, 0, ⟨(some 59), none, .plain (.mov (.tmp 58))⟩, [], []⟩,
 ⟨13, .pure, 0, ⟨(some 60), (some (59, false)), .plain (.mov (.tmp 9))⟩, [], []⟩,
 ⟨14, .pure, 0, ⟨(some 61), (some (59, false)), .plain (.iaddr none 1 (.tmp 60) (.const (.int .i64 2)))⟩, [], []⟩,
 ⟨15, .read, 0, ⟨(some 62), (some (59, false)), .plain (.load none (.tmp 61))⟩, [], []⟩,
 ⟨16, .pure, 0, ⟨(some 63), (some (59, false)), .plain (.mov (.tmp 4))⟩, [], []⟩,
 ⟨17, .pure, 0, ⟨(some 64), (some (59, false)), .plain (.bin .sub (.tmp 63) (.const (.int .i64 1)))⟩, [], []⟩,
 ⟨18, .pure, 0, ⟨(some 65), (some (59, false)), .plain (.bin .neq (.tmp 62) (.tmp 64))⟩, [], []⟩,
 ⟨19, .pure, 0, ⟨(some 66), none, .plain (.pick (.tmp 59) (.const (.bool true)) (.tmp 65))⟩, [], []⟩,
 ⟨20, .pure, 0, ⟨(some 67), none, .plain (.mov (.tmp 66))⟩, [], []⟩,
 ⟨21, .pure, 0, ⟨(some 68), (some (67, false)), .plain (.mov (.tmp 9))⟩, [], []⟩,
 ⟨22, .pure, 0, ⟨(some 69), (some (67, false)), .plain (.iaddr none 1 (.tmp 68) (.const (.int .i64 3)))⟩, [], []⟩,
 ⟨23, .read, 0, ⟨(some 70), (some (67, false)), .plain (.load none (.tmp 69))⟩, [], []⟩,
 ⟨24, .pure, 0, ⟨(some 71), (some (67, false)), .plain (.bin .neq (.tmp 70) (.const (.int .i64 1)))⟩, [], []⟩,
 ⟨25, .pure, 0, ⟨(some 72), none, .plain (.pick (.tmp 67) (.const (.bool true)) (.tmp 71))⟩, [], []⟩,
 ⟨26, .pure, 0, ⟨(some 73), none, .plain (.mov (.tmp 72))⟩, [], []⟩,
 ⟨27, .pure, 0, ⟨(some 74), (some (73, false)), .plain (.mov (.tmp 6))⟩, [], []⟩,
 ⟨28, .pure, 0, ⟨(some 75), (some (73, false)), .plain (.iaddr none 1 (.tmp 74) (.const (.int .i64 0)))⟩, [], []⟩,
 ⟨29, .read, 0, ⟨(some 76), (some (73, false)), .plain (.load none (.tmp 75))⟩, [], []⟩,
 ⟨30, .pure, 0, ⟨(some 77), (some (73, false)), .plain (.mov (.tmp 9))⟩, [], []⟩,
 ⟨31, .pure, 0, ⟨(some 78), (some (73, false)), .plain (.iaddr none 1 (.tmp 77) (.const (.int .i64 0)))⟩, [], []⟩,
 ⟨32, .read, 0, ⟨(some 79), (some (73, false)), .plain (.load none (.tmp 78))⟩, [], []⟩,
 ⟨33, .pure, 0, ⟨(some 80), (some (73, false)), .plain (.bin .neq (.tmp 76) (.tmp 79))⟩, [], []⟩,
 ⟨34, .pure, 0, ⟨(some 81), none, .plain (.pick (.tmp 73) (.const (.bool true)) (.tmp 80))⟩, [], []⟩,
 ⟨35, .pure, 0, ⟨(some 82), none, .plain (.mov (.tmp 81))⟩, [], []⟩,
 ⟨36, .pure, 0, ⟨(some 83), (some (82, false)), .plain (.mov (.tmp 6))⟩, [], []⟩,
 ⟨37, .pure, 0, ⟨(some 84), (some (82, false)), .plain (.iaddr none 1 (.tmp 83) (.const (.int .i64 1)))⟩, [], []⟩,
 ⟨38, .read, 0, ⟨(some 85), (some (82, false)), .plain (.load none (.tmp 84))⟩, [], []⟩,
 ⟨39, .pure, 0, ⟨(some 86), (some (82, false)), .plain (.mov (.tmp 9))⟩, [], []⟩,
 ⟨40, .pure, 0, ⟨(some 87), (some (82, false)), .plain (.iaddr none 1 (.tmp 86) (.const (.int .i64 1)))⟩, [], []⟩,
 ⟨41, .read, 0, ⟨(some 88), (some (82, false)), .plain (.load none (.tmp 87))⟩, [], []⟩,
 ⟨42, .pure, 0, ⟨(some 89), (some (82, false)), .plain (.bin .neq (.tmp 85) (.tmp 88))⟩, [], []⟩,
 ⟨43, .pure, 0, ⟨(some 90), none, .plain (.pick (.tmp 82) (.const (.bool true)) (.tmp 89))⟩, [], []⟩,
 ⟨44, .pure, 0, ⟨(some 91), none, .plain (.mov (.tmp 90))⟩, [], []⟩,
 ⟨45, .pure, 0, ⟨(some 92), (some (91, false)), .plain (.faddr 1 (.tmp 5))⟩, [], []⟩,
 ⟨46, .read, 0, ⟨(some 93), (some (91, false)), .plain (.load none (.tmp 92))⟩, [], []⟩,
 ⟨47, .pure, 0, ⟨(some 94), (some (91, false)), .plain (.faddr 1 (.tmp 8))⟩, [], []⟩,
 ⟨48, .read, 0, ⟨(some 95), (some (91, false)), .plain (.load none (.tmp 94))⟩, [], []⟩,
 ⟨49, .pure, 0, ⟨(some 96), (some (91, false)), .plain (.bin .neq (.tmp 93) (.tmp 95))⟩, [], []⟩,
 ⟨50, .pure, 0, ⟨(some 97), none, .plain (.pick (.tmp 91) (.const (.bool true)) (.tmp 96))⟩, [], []⟩,
 ⟨51, .pure, 0, ⟨(some 98), none, .plain (.mov (.tmp 97))⟩, [], []⟩,
 ⟨52, .pure, 0, ⟨(some 99), (some (98, false)), .plain (.faddr 2 (.tmp 5))⟩, [], []⟩,
 ⟨53, .read, 0, ⟨(some 100), (some (98, false)), .plain (.load none (.tmp 99))⟩, [], []⟩,
 ⟨54, .pure, 0, ⟨(some 101), (some (98, false)), .plain (.faddr 2 (.tmp 8))⟩, [], []⟩,
 ⟨55, .read, 0, ⟨(some 102), (some (98, false)), .plain (.load none (.tmp 101))⟩, [], []⟩,
 ⟨56, .pure, 0, ⟨(some 103), (some (98, false)), .plain (.bin .neq (.tmp 100) (.tmp 102))⟩, [], []⟩,
 ⟨57, .pure, 0, ⟨(some 104), none, .plain (.pick (.tmp 98) (.const (.bool true)) (.tmp 103))⟩, [], []⟩,
 ⟨58, .pure, 0, ⟨(some 105), none, .plain (.mov (.tmp 104))⟩, [], []⟩,
 ⟨59, .pure, 0, ⟨(some 106), (some (105, false)), .plain (.faddr 3 (.tmp 5))⟩, [], []⟩,
 ⟨60, .read, 0, ⟨(some 107), (some (105, false)), .plain (.load none (.tmp 106))⟩, [], []⟩,
 ⟨61, .pure, 0, ⟨(some 108), (some (105, false)), .plain (.faddr 3 (.tmp 8))⟩, [], []⟩,
 ⟨62, .read, 0, ⟨(some 109), (some (105, false)), .plain (.load none (.tmp 108))⟩, [], []⟩,
 ⟨63, .chain, 0, ⟨(some 110), (some (105, false)), .call 28 [(.tmp 107), (.tmp 109)]⟩, [], []⟩,
 ⟨64, .pure, 0, ⟨(some 111), (some (105, false)), .plain (.un .not (.tmp 110))⟩, [], []⟩,
 ⟨65, .pure, 0, ⟨(some 112), none, .plain (.pick (.tmp 105) (.const (.bool true)) (.tmp 111))⟩, [], []⟩])
 (.cond (.tmp 112)
 (.both (.seq [⟨(some 113), none, .plain (.build (.str [(.int .i64 0), (.int .i64 0), (.int .i64 0), (.slice none 0 0), (.slice none 0 0), (.int .i64 0), (.int .i64 0)] [(0, 1), (1, 1), (2, 1), (3, 1), (4, 1), (5, 1), (6, 1)]) [])⟩,
 ⟨none, none, .plain (.store 7 (.tmp 2) (.tmp 113))⟩,
 ⟨(some 3), none, .plain (.mov (.const (.int .i64 11)))⟩])
 .ret)
 .skip))
 (.both (.seq [⟨(some 114), none, .plain (.mov (.tmp 4))⟩,
 ⟨(some 115), none, .plain (.faddr 0 (.tmp 5))⟩,
 ⟨none, none, .plain (.store 1 (.tmp 115) (.tmp 114))⟩])
 (.both (.seq [⟨(some 116), none, .plain (.faddr 5 (.tmp 8))⟩,
 ⟨(some 117), none, .plain (.load none (.tmp 116))⟩,
 ⟨(some 118), none, .plain (.faddr 6 (.tmp 5))⟩,
 ⟨none, none, .plain (.store 1 (.tmp 118) (.tmp 117))⟩])
 (.both (.draw 0 [⟨0, .pure, 0, ⟨(some 120), none, .plain (.mov (.tmp 0))⟩, [], []⟩,
 ⟨1, .pure, 0, ⟨(some 121), none, .plain (.faddr 5 (.tmp 5))⟩, [], []⟩,
 ⟨2, .read, 0, ⟨(some 122), none, .plain (.load none (.tmp 121))⟩, [], []⟩,
 ⟨3, .pure, 0, ⟨(some 123), none, .plain (.mov (.tmp 6))⟩, [], []⟩,
 ⟨4, .pure, 0, ⟨(some 124), none, .plain (.iaddr none 1 (.tmp 123) (.const (.int .i64 0)))⟩, [], []⟩,
 ⟨5, .read, 0, ⟨(some 125), none, .plain (.load none (.tmp 124))⟩, [], []⟩,
 ⟨6, .pure, 0, ⟨(some 126), none, .plain (.mov (.tmp 6))⟩, [], []⟩,
 ⟨7, .pure, 0, ⟨(some 127), none, .plain (.iaddr none 1 (.tmp 126) (.const (.int .i64 1)))⟩, [], []⟩,
 ⟨8, .read, 0, ⟨(some 128), none, .plain (.load none (.tmp 127))⟩, [], []⟩,
 ⟨9, .chain, 0, ⟨(some 129), none, .call 52 [(.tmp 120), (.tmp 122), (.tmp 125), (.tmp 128)]⟩, [], []⟩,
 ⟨10, .pure, 0, ⟨(some 119), none, .plain (.mov (.tmp 129))⟩, [], []⟩,
 ⟨11, .pure, 0, ⟨(some 130), none, .plain (.extract (.tmp 119) 0)⟩, [], []⟩,
 ⟨12, .pure, 0, ⟨(some 131), none, .plain (.extract (.tmp 119) 1)⟩, [], []⟩,
 ⟨13, .pure, 0, ⟨(some 132), none, .plain (.faddr 4 (.tmp 5))⟩, [], []⟩,
 ⟨14, .chain, 0, ⟨none, none, .plain (.store 1 (.tmp 132) (.tmp 130))⟩, [], []⟩,
 ⟨15, .pure, 0, ⟨(some 7), none, .plain (.mov (.tmp 131))⟩, [], []⟩])
 (.both (.both (.seq [⟨(some 133), none, .plain (.mov (.tmp 7))⟩,
 ⟨(some 134), none, .plain (.bin .neq (.tmp 133) (.const (.int .i64 0)))⟩])
 (.cond (.tmp 134)
 (.both (.seq [⟨(some 135), none, .plain (.build (.str [(.int .i64 0), (.int .i64 0), (.int .i64 0), (.slice none 0 0), (.slice none 0 0), (.int .i64 0), (.int .i64 0)] [(0, 1), (1, 1), (2, 1), (3, 1), (4, 1), (5, 1), (6, 1)]) [])⟩,
 ⟨(some 136), none, .plain (.mov (.tmp 7))⟩,
 ⟨none, none, .plain (.store 7 (.tmp 2) (.tmp 135))⟩,
 ⟨(some 3), none, .plain (.mov (.tmp 136))⟩])
 .ret)
 .skip))
 (.both (.draw 0 [⟨0, .pure, 0, ⟨(some 138), none, .plain (.mov (.tmp 0))⟩, [], []⟩,
 ⟨1, .pure, 0, ⟨(some 139), none, .plain (.faddr 6 (.tmp 5))⟩, [], []⟩,
 ⟨2, .read, 0, ⟨(some 140), none, .plain (.load none (.tmp 139))⟩, [], []⟩,
 ⟨3, .pure, 0, ⟨(some 141), none, .plain (.mov (.tmp 6))⟩, [], []⟩,
 ⟨4, .pure, 0, ⟨(some 142), none, .plain (.iaddr none 1 (.tmp 141) (.const (.int .i64 0)))⟩, [], []⟩,
 ⟨5, .read, 0, ⟨(some 143), none, .plain (.load none (.tmp 142))⟩, [], []⟩,
 ⟨6, .pure, 0, ⟨(some 144), none, .plain (.mov (.tmp 6))⟩, [], []⟩,
 ⟨7, .pure, 0, ⟨(some 145), none, .plain (.iaddr none 1 (.tmp 144) (.const (.int .i64 1)))⟩, [], []⟩,
 ⟨8, .read, 0, ⟨(some 146), none, .plain (.load none (.tmp 145))⟩, [], []⟩,
 ⟨9, .chain, 0, ⟨(some 147), none, .call 52 [(.tmp 138), (.tmp 140), (.tmp 143), (.tmp 146)]⟩, [], []⟩,
 ⟨10, .pure, 0, ⟨(some 137), none, .plain (.mov (.tmp 147))⟩, [], []⟩,
 ⟨11, .pure, 0, ⟨(some 148), none, .plain (.extract (.tmp 137) 0)⟩, [], []⟩,
 ⟨12, .pure, 0, ⟨(some 149), none, .plain (.extract (.tmp 137) 1)⟩, [], []⟩,
 ⟨13, .pure, 0, ⟨(some 7), none, .plain (.mov (.tmp 149))⟩, [], []⟩])
 (.both (.both (.seq [⟨(some 150), none, .plain (.mov (.tmp 7))⟩,
 ⟨(some 151), none, .plain (.bin .neq (.tmp 150) (.const (.int .i64 0)))⟩])
 (.cond (.tmp 151)
 (.both (.seq [⟨(some 152), none, .plain (.build (.str [(.int .i64 0), (.int .i64 0), (.int .i64 0), (.slice none 0 0), (.slice none 0 0), (.int .i64 0), (.int .i64 0)] [(0, 1), (1, 1), (2, 1), (3, 1), (4, 1), (5, 1), (6, 1)]) [])⟩,
 ⟨(some 153), none, .plain (.mov (.tmp 7))⟩,
 ⟨none, none, .plain (.store 7 (.tmp 2) (.tmp 152))⟩,
 ⟨(some 3), none, .plain (.mov (.tmp 153))⟩])
 .ret)
 .skip))
 (.both (.seq [⟨(some 154), none, .plain (.load (some 7) (.tmp 5))⟩,
 ⟨(some 155), none, .call 18 [(.tmp 154)]⟩,
 ⟨(some 7), none, .plain (.mov (.tmp 155))⟩])
 (.both (.both (.seq [⟨(some 156), none, .plain (.mov (.tmp 7))⟩,
 ⟨(some 157), none, .plain (.bin .neq (.tmp 156) (.const (.int .i64 0)))⟩])
 (.cond (.tmp 157)
 (.both (.seq [⟨(some 158), none, .plain (.build (.str [(.int .i64 0), (.int .i64 0), (.int .i64 0), (.slice none 0 0), (.slice none 0 0), (.int .i64 0), (.int .i64 0)] [(0, 1), (1, 1), (2, 1), (3, 1), (4, 1), (5, 1), (6, 1)]) [])⟩,
 ⟨(some 159), none, .plain (.mov (.tmp 7))⟩,
 ⟨none, none, .plain (.store 7 (.tmp 2) (.tmp 158))⟩,
 ⟨(some 3), none, .plain (.mov (.tmp 159))⟩])
 .ret)
 .skip))
 (.both (.seq [⟨(some 160), none, .plain (.load (some 7) (.tmp 5))⟩,
 ⟨none, none, .plain (.store 7 (.tmp 2) (.tmp 160))⟩,
 ⟨(some 3), none, .plain (.mov (.const (.int .i64 0)))⟩])
 .ret)))))))))))))))))⟩
/-- fettle/fettlelaw14.same -/
def a23 : AFunc := ⟨2, [.tmp 4],
 (.both (.seq [⟨(some 2), none, .plain (.box (.tmp 0))⟩,
 ⟨(some 3), none, .plain (.box (.tmp 1))⟩,
 ⟨(some 4), none, .plain (.mov (.const (.bool false)))⟩])
 (.both (.both (.seq [⟨(some 8), none, .plain (.faddr 0 (.tmp 2))⟩,
 ⟨(some 9), none, .plain (.load none (.tmp 8))⟩,
 ⟨(some 10), none, .plain (.faddr 0 (.tmp 3))⟩,
 ⟨(some 11), none, .plain (.load none (.tmp 10))⟩,
 ⟨(some 12), none, .plain (.bin .neq (.tmp 9) (.tmp 11))⟩,
 ⟨(some 13), none, .plain (.mov (.tmp 12))⟩,
 ⟨(some 14), (some (13, false)), .plain (.faddr 1 (.tmp 2))⟩,
 ⟨(some 15), (some (13, false)), .plain (.load none (.tmp 14))⟩,
 ⟨(some 16), (some (13, false)), .plain (.faddr 1 (.tmp 3))⟩,
 ⟨(some 17), (some (13, false)), .plain (.load none (.tmp 16))⟩,
 ⟨(some 18), (some (13, false)), .plain (.bin .neq (.tmp 15) (.tmp 17))⟩,
 ⟨(some 19), none, .plain (.pick (.tmp 13) (.const (.bool true)) (.tmp 18))⟩,
 ⟨(some 20), none, .plain (.mov (.tmp 19))⟩,
 ⟨(some 21), (some (20, false)), .plain (.faddr 2 (.tmp 2))⟩,
 ⟨(some 22), (some (20, false)), .plain (.load none (.tmp 21))⟩,
 ⟨(some 23), (some (20, false)), .plain (.faddr 2 (.tmp 3))⟩,
 ⟨(some 24), (some (20, false)), .plain (.load none (.tmp 23))⟩,
 ⟨(some 25), (some (20, false)), .plain (.bin .neq (.tmp 22) (.tmp 24))⟩,
 ⟨(some 26), none, .plain (.pick (.tmp 20) (.const (.bool true)) (.tmp 25))⟩,
 ⟨(some 27), none, .plain (.mov (.tmp 26))⟩,
 ⟨(some 28), (some (27, false)), .plain (.faddr 5 (.tmp 2))⟩,
 ⟨(some 29), (some (27, false)), .plain (.load none (.tmp 28))⟩,
 ⟨(some 30), (some (27, false)), .plain (.faddr 5 (.tmp 3))⟩,
 ⟨(some 31), (some (27, false)), .plain (.load none (.tmp 30))⟩,
 ⟨(some 32), (some (27, false)), .plain (.bin .neq (.tmp 29) (.tmp 31))⟩,
 ⟨(some 33), none, .plain (.pick (.tmp 27) (.const (.bool true)) (.tmp 32))⟩,
 ⟨(some 34), none, .plain (.mov (.tmp 33))⟩,
 ⟨(some 35), (some (34, false)), .plain (.faddr 6 (.tmp 2))⟩,
 ⟨(some 36), (some (34, false)), .plain (.load none (.tmp 35))⟩,
 ⟨(some 37), (some (34, false)), .plain (.faddr 6 (.tmp 3))⟩,
 ⟨(some 38), (some (34, false)), .plain (.load none (.tmp 37))⟩,
 ⟨(some 39), (some (34, false)), .plain (.bin .neq (.tmp 36) (.tmp 38))⟩,
 ⟨(some 40), none, .plain (.pick (.tmp 34) (.const (.bool true)) (.tmp 39))⟩,
 ⟨(some 41), none, .plain (.mov (.tmp 40))⟩,
 ⟨(some 42), (some (41, false)), .plain (.faddr 3 (.tmp 2))⟩,
 ⟨(some 43), (some (41, false)), .plain (.load none (.tmp 42))⟩,
 ⟨(some 44), (some (41, false)), .plain (.conv .b2s (.tmp 43))⟩,
 ⟨(some 45), (some (41, false)), .plain (.faddr 3 (.tmp 3))⟩,
 ⟨(some 46), (some (41, false)), .plain (.load none (.tmp 45))⟩,
 ⟨(some 47), (some (41, false)), .plain (.conv .b2s (.tmp 46))⟩,
 ⟨(some 48), (some (41, false)), .plain (.bin .neq (.tmp 44) (.tmp 47))⟩,
 ⟨(some 49), (some (41, false)), .plain (.mov (.tmp 48))⟩,
 ⟨(some 50), (some (49, true)), .plain (.faddr 4 (.tmp 2))⟩,
 ⟨(some 51), (some (49, true)), .plain (.load none (.tmp 50))⟩,
 ⟨(some 52), (some (49, true)), .plain (.len .sl (.tmp 51))⟩,
 ⟨(some 53), (some (49, true)), .plain (.faddr 4 (.tmp 3))⟩,
 ⟨(some 54), (some (49, true)), .plain (.load none (.tmp 53))⟩,
 ⟨(some 55), (some (49, true)), .plain (.len .sl (.tmp 54))⟩,
 ⟨(some 56), (some (49, true)), .plain (.bin .add (.tmp 52) (.tmp 55))⟩,
 ⟨(some 57), (some (49, true)), .plain (.bin .gtr (.tmp 56) (.const (.int .i64 0)))⟩,
 ⟨(some 58), (some (41, false)), .plain (.pick (.tmp 49) (.tmp 57) (.const (.bool false)))⟩,
 ⟨(some 59), none, .plain (.pick (.tmp 41) (.const (.bool true)) (.tmp 58))⟩,
 ⟨(some 60), none, .plain (.mov (.tmp 59))⟩,
 ⟨(some 61), (some (60, false)), .plain (.faddr 4 (.tmp 2))⟩,
 ⟨(some 62), (some (60, false)), .plain (.load none (.tmp 61))⟩,
 ⟨(some 63), (some (60, false)), .plain (.len .sl (.tmp 62))⟩,
 ⟨(some 64), (some (60, false)), .plain (.faddr 4 (.tmp 3))⟩,
 ⟨(some 65), (some (60, false)), .plain (.load none (.tmp 64))⟩,
 ⟨(some 66), (some (60, false)), .plain (.len .sl (.tmp 65))⟩,
 ⟨(some 67), (some (60, false)), .plain (.bin .neq (.tmp 63) (.tmp 66))⟩,
 ⟨(some 68), none, .plain (.pick (.tmp 60) (.const (.bool true)) (.tmp 67))⟩])
 (.cond (.tmp 68)
 (.both (.seq [⟨(some 4), none, .plain (.mov (.const (.bool false)))⟩])
 .ret)
 .skip))
 (.both (.both (.seq [⟨(some 5), none, .plain (.mov (.const (.int .i64 0)))⟩])
 (.block 0 (.loop (.both (.both (.seq [⟨(some 69), none, .plain (.mov (.tmp 5))⟩,
 ⟨(some 70), none, .plain (.faddr 4 (.tmp 2))⟩,
 ⟨(some 71), none, .plain (.load none (.tmp 70))⟩,
 ⟨(some 72), none, .plain (.len .sl (.tmp 71))⟩,
 ⟨(some 73), none, .plain (.bin .lss (.tmp 69) (.tmp 72))⟩])
 (.cond (.tmp 73)
 .skip
 (.exit 0)))
 (.both (.block 1 (.both (.draw 2 [⟨0, .pure, 0, ⟨(some 76), none, .plain (.faddr 4 (.tmp 2))⟩, [], []⟩,
 ⟨1, .read, 0, ⟨(some 77), none, .plain (.load none (.tmp 76))⟩, [], []⟩,
 ⟨2, .pure, 0, ⟨(some 78), none, .plain (.mov (.tmp 5))⟩, [], []⟩,
 ⟨3, .pure, 0, ⟨(some 79), none, .plain (.iaddr none 4 (.tmp 77) (.tmp 78))⟩, [], []⟩,
 ⟨4, .read, 0, ⟨(some 80), none, .plain (.load (some 4) (.tmp 79))⟩, [], []⟩,
 ⟨5, .pure, 0, ⟨(some 81), none, .plain (.faddr 4 (.tmp 3))⟩, [], []⟩,
 ⟨6, .read, 0, ⟨(some 82), none, .plain (.load none (.tmp 81))⟩, [], []⟩,
 ⟨7, .pure, 0, ⟨(some 83), none, .plain (.mov (.tmp 5))⟩, [], []⟩,
 ⟨8, .pure, 0, ⟨(some 84), none, .plain (.iaddr none 4 (.tmp 82) (.tmp 83))⟩, [], []⟩,
 ⟨9, .read, 0, ⟨(some 85), none, .plain (.load (some 4) (.tmp 84))⟩, [], []⟩,
 ⟨10, .fresh, 0, ⟨(some 6), none, .plain (.alloc [(.slice none 0 0), (.int .i64 0), (.int .i64 0), (.slice none 0 0)])⟩, [], []⟩,
 ⟨11, .fresh, 1, ⟨(some 7), none, .plain (.alloc [(.slice none 0 0), (.int .i64 0), (.int .i64 0), (.slice none 0 0)])⟩, [], []⟩,
 ⟨12, .chain, 0, ⟨none, none, .plain (.store 4 (.tmp 6) (.tmp 80))⟩, [9, 6], []⟩,
 ⟨13, .chain, 0, ⟨none, none, .plain (.store 4 (.tmp 7) (.tmp 85))⟩, [], []⟩])
 (.both (.seq [⟨(some 86), none, .plain (.faddr 0 (.tmp 6))⟩,
 ⟨(some 87), none, .plain (.load none (.tmp 86))⟩,
 ⟨(some 88), none, .plain (.faddr 0 (.tmp 7))⟩,
 ⟨(some 89), none, .plain (.load none (.tmp 88))⟩,
 ⟨(some 90), none, .call 28 [(.tmp 87), (.tmp 89)]⟩,
 ⟨(some 91), none, .plain (.un .not (.tmp 90))⟩,
 ⟨(some 92), none, .plain (.mov (.tmp 91))⟩,
 ⟨(some 93), (some (92, false)), .plain (.faddr 3 (.tmp 6))⟩,
 ⟨(some 94), (some (92, false)), .plain (.load none (.tmp 93))⟩,
 ⟨(some 95), (some (92, false)), .plain (.faddr 3 (.tmp 7))⟩,
 ⟨(some 96), (some (92, false)), .plain (.load none (.tmp 95))⟩,
 ⟨(some 97), (some (92, false)), .call 28 [(.tmp 94), (.tmp 96)]⟩,
 ⟨(some 98), (some (92, false)), .plain (.un .not (.tmp 97))⟩,
 ⟨(some 99), none, .plain (.pick (.tmp 92) (.const (.bool true)) (.tmp 98))⟩,
 ⟨(some 100), none, .plain (.mov (.tmp 99))⟩,
 ⟨(some 101), (some (100, false)), .plain (.faddr 1 (.tmp 6))⟩,
 ⟨(some 102), (some (100, false)), .plain (.load none (.tmp 101))⟩,
 ⟨(some 103), (some (100, false)), .plain (.faddr 1 (.tmp 7))⟩,
 ⟨(some 104), (some (100, false)), .plain (.load none (.tmp 103))⟩,
 ⟨(some 105), (some (100, false)), .plain (.bin .neq (.tmp 102) (.tmp 104))⟩,
 ⟨(some 106), none, .plain (.pick (.tmp 100) (.const (.bool true)) (.tmp 105))⟩,
 ⟨(some 107), none, .plain (.mov (.tmp 106))⟩,
 ⟨(some 108), (some (107, false)), .plain (.faddr 2 (.tmp 6))⟩,
 ⟨(some 109), (some (107, false)), .plain (.load none (.tmp 108))⟩,
 ⟨(some 110), (some (107, false)), .plain (.faddr 2 (.tmp 7))⟩,
 ⟨(some 111), (some (107, false)), .plain (.load none (.tmp 110))⟩,
 ⟨(some 112), (some (107, false)), .plain (.bin .neq (.tmp 109) (.tmp 111))⟩,
 ⟨(some 113), none, .plain (.pick (.tmp 107) (.const (.bool true)) (.tmp 112))⟩])
 (.cond (.tmp 113)
 (.both (.seq [⟨(some 4), none, .plain (.mov (.const (.bool false)))⟩])
 .ret)
 .skip))))
 (.seq [⟨(some 74), none, .plain (.mov (.tmp 5))⟩,
 ⟨(some 75), none, .plain (.bin .add (.tmp 74) (.const (.int .i64 1)))⟩,
 ⟨(some 5), none, .plain (.mov (.tmp 75))⟩]))))))
 (.both (.seq [⟨(some 4), none, .plain (.mov (.const (.bool true)))⟩])
 .ret))))⟩
/-- fettle/fettleref01.Zeros -/
def a25 : AFunc := ⟨1, [.tmp 2],
 (.both (.seq [⟨(some 2), none, .plain (.mov (.const (.slice none 0 0)))⟩])
 (.both (.seq [⟨(some 3), none, .plain (.mov (.tmp 0))⟩,
 ⟨(some 4), none, .plain (.makeSlice ⟨1, 1, [(.int .u8 0)]⟩ (.tmp 3) (.tmp 3))⟩,
 ⟨(some 2), none, .plain (.mov (.tmp 4))⟩])
 .ret))⟩
/-- fettle/fettleref14.Laid -/
def a26 : AFunc := ⟨2, [.tmp 4],
 (.both (.seq [⟨(some 3), none, .plain (.box (.tmp 1))⟩,
 ⟨(some 4), none, .plain (.mov (.const (.slice none 0 0)))⟩])
 (.both (.seq [⟨(some 6), none, .plain (.faddr 4 (.tmp 3))⟩,
 ⟨(some 7), none, .plain (.load none (.tmp 6))⟩,
 ⟨(some 8), none, .call 57 [(.tmp 7)]⟩,
 ⟨(some 9), none, .call 56 [(.tmp 8), (.const (.int .i64 512))]⟩,
 ⟨(some 5), none, .plain (.mov (.tmp 9))⟩])
 (.both (.seq [⟨(some 10), none, .plain (.mov (.tmp 0))⟩,
 ⟨(some 11), none, .plain (.faddr 5 (.tmp 3))⟩,
 ⟨(some 12), none, .plain (.load none (.tmp 11))⟩,
 ⟨(some 13), none, .plain (.bin .mul (.tmp 12) (.const (.int .i64 512)))⟩,
 ⟨(some 14), none, .plain (.mov (.tmp 5))⟩,
 ⟨(some 15), none, .call 27 [(.tmp 10), (.tmp 13), (.tmp 14)]⟩,
 ⟨(some 0), none, .plain (.mov (.tmp 15))⟩])
 (.both (.seq [⟨(some 16), none, .plain (.mov (.tmp 0))⟩,
 ⟨(some 17), none, .plain (.load (some 7) (.tmp 3))⟩,
 ⟨(some 18), none, .call 58 [(.tmp 17), (.const (.bool false))]⟩,
 ⟨(some 19), none, .call 27 [(.tmp 16), (.const (.int .i64 512)), (.tmp 18)]⟩,
 ⟨(some 0), none, .plain (.mov (.tmp 19))⟩])
 (.both (.seq [⟨(some 20), none, .plain (.mov (.tmp 0))⟩,
 ⟨(some 21), none, .plain (.faddr 6 (.tmp 3))⟩,
 ⟨(some 22), none, .plain (.load none (.tmp 21))⟩,
 ⟨(some 23), none, .plain (.bin .mul (.tmp 22) (.const (.int .i64 512)))⟩,
 ⟨(some 24), none, .plain (.mov (.tmp 5))⟩,
 ⟨(some 25), none, .call 27 [(.tmp 20), (.tmp 23), (.tmp 24)]⟩,
 ⟨(some 0), none, .plain (.mov (.tmp 25))⟩])
 (.both (.draw 0 [⟨0, .pure, 0, ⟨(some 26), none, .plain (.mov (.tmp 0))⟩, [], []⟩,
 ⟨1, .pure, 0, ⟨(some 27), none, .plain (.faddr 0 (.tmp 3))⟩, [], []⟩,
 ⟨2, .read, 0, ⟨(some 28), none, .plain (.load none (.tmp 27))⟩, [], []⟩,
 ⟨3, .pure, 0, ⟨(some 29), none, .plain (.bin .mul (.tmp 28) (.const (.int .i64 512)))⟩, [], []⟩,
 ⟨4, .pure, 0, ⟨(some 30), none, .plain (.bin .sub (.tmp 29) (.const (.int .i64 512)))⟩, [], []⟩,
 ⟨5, .read, 0, ⟨(some 31), none, .plain (.load (some 7) (.tmp 3))⟩, [], []⟩,
 ⟨6, .chain, 0, ⟨(some 32), none, .call 58 [(.tmp 31), (.const (.bool true))]⟩, [2], []⟩,
 ⟨7, .chain, 0, ⟨(some 33), none, .call 27 [(.tmp 26), (.tmp 30), (.tmp 32)]⟩, [], []⟩,
 ⟨8, .pure, 0, ⟨(some 4), none, .plain (.mov (.tmp 33))⟩, [], []⟩])
 .ret))))))⟩
/-- fettle/fettleref01.With -/
def a27 : AFunc := ⟨3, [.tmp 6],
 (.both (.seq [⟨(some 6), none, .plain (.mov (.const (.slice none 0 0)))⟩])
 (.both (.seq [⟨(some 7), none, .plain (.mov (.const (.slice none 0 0)))⟩])
 (.both (.seq [⟨(some 8), none, .plain (.mov (.tmp 7))⟩,
 ⟨(some 9), none, .plain (.mov (.tmp 0))⟩,
 ⟨(some 10), none, .plain (.mov (.tmp 1))⟩,
 ⟨(some 11), none, .plain (.cut (.sl 1) (.tmp 9) none (some (.tmp 10)) none)⟩,
 ⟨(some 12), none, .plain (.append ⟨1, 1, [(.int .u8 0)]⟩ false (.tmp 8) (.tmp 11))⟩,
 ⟨(some 7), none, .plain (.mov (.tmp 12))⟩])
 (.both (.seq [⟨(some 13), none, .plain (.mov (.tmp 7))⟩,
 ⟨(some 14), none, .plain (.mov (.tmp 2))⟩,
 ⟨(some 15), none, .plain (.append ⟨1, 1, [(.int .u8 0)]⟩ false (.tmp 13) (.tmp 14))⟩,
 ⟨(some 7), none, .plain (.mov (.tmp 15))⟩])
 (.both (.seq [⟨(some 16), none, .plain (.mov (.tmp 7))⟩,
 ⟨(some 17), none, .plain (.mov (.tmp 0))⟩,
 ⟨(some 18), none, .plain (.mov (.tmp 1))⟩,
 ⟨(some 19), none, .plain (.mov (.tmp 2))⟩,
 ⟨(some 20), none, .plain (.len .sl (.tmp 19))⟩,
 ⟨(some 21), none, .plain (.bin .add (.tmp 18) (.tmp 20))⟩,
 ⟨(some 22), none, .plain (.cut (.sl 1) (.tmp 17) (some (.tmp 21)) none none)⟩,
 ⟨(some 23), none, .plain (.append ⟨1, 1, [(.int .u8 0)]⟩ false (.tmp 16) (.tmp 22))⟩,
 ⟨(some 6), none, .plain (.mov (.tmp 23))⟩])
 .ret)))))⟩
/-- fettle/fettleref01.Same -/
def a28 : AFunc := ⟨2, [.tmp 4],
 (.both (.seq [⟨(some 4), none, .plain (.mov (.const (.bool false)))⟩])
 (.both (.seq [⟨(some 5), none, .plain (.mov (.tmp 0))⟩,
 ⟨(some 6), none, .plain (.conv .b2s (.tmp 5))⟩,
 ⟨(some 7), none, .plain (.mov (.tmp 1))⟩,
 ⟨(some 8), none, .plain (.conv .b2s (.tmp 7))⟩,
 ⟨(some 9), none, .plain (.bin .eql (.tmp 6) (.tmp 8))⟩,
 ⟨(some 4), none, .plain (.mov (.tmp 9))⟩])
 .ret))⟩
/-- fettle/fettleref01.Bytes -/
def a32 : AFunc := ⟨2, [.tmp 4],
 (.both (.seq [⟨(some 4), none, .plain (.mov (.const (.slice none 0 0)))⟩])
 (.both (.seq [⟨(some 5), none, .plain (.mov (.const (.slice none 0 0)))⟩])
 (.both (.both (.seq [⟨(some 6), none, .plain (.mov (.const (.int .i64 0)))⟩])
 (.block 0 (.loop (.both (.both (.seq [⟨(some 7), none, .plain (.mov (.tmp 6))⟩,
 ⟨(some 8), none, .plain (.mov (.tmp 1))⟩,
 ⟨(some 9), none, .plain (.bin .lss (.tmp 7) (.tmp 8))⟩])
 (.cond (.tmp 9)
 .skip
 (.exit 0)))
 (.both (.block 1 (.both (.seq [⟨(some 12), none, .plain (.mov (.tmp 5))⟩,
 ⟨(some 13), none, .plain (.mov (.tmp 0))⟩,
 ⟨(some 14), none, .plain (.bin .rem (.tmp 13) (.const (.int .u64 256)))⟩,
 ⟨(some 15), none, .plain (.conv (.int .u8) (.tmp 14))⟩,
 ⟨(some 16), none, .plain (.buildSlice ⟨1, 1, [(.int .u8 0)]⟩ 1 [(0, (.tmp 15))])⟩,
 ⟨(some 17), none, .plain (.append ⟨1, 1, [(.int .u8 0)]⟩ false (.tmp 12) (.tmp 16))⟩,
 ⟨(some 5), none, .plain (.mov (.tmp 17))⟩])
 (.seq [⟨(some 18), none, .plain (.mov (.tmp 0))⟩,
 ⟨(some 19), none, .plain (.bin .quo (.tmp 18) (.const (.int .u64 256)))⟩,
 ⟨(some 0), none, .plain (.mov (.tmp 19))⟩])))
 (.seq [⟨(some 10), none, .plain (.mov (.tmp 6))⟩,
 ⟨(some 11), none, .plain (.bin .add (.tmp 10) (.const (.int .i64 1)))⟩,
 ⟨(some 6), none, .plain (.mov (.tmp 11))⟩]))))))
 (.both (.seq [⟨(some 20), none, .plain (.mov (.tmp 5))⟩,
 ⟨(some 4), none, .plain (.mov (.tmp 20))⟩])
 .ret))))⟩
/-- fettle/extent.Apart -/
def a38 : AFunc := ⟨1, [.tmp 2],
 (.both (.seq [⟨(some 2), none, .plain (.mov (.const (.bool false)))⟩])
 (.both (.seq [⟨(some 3), none, .plain (.mov (.const (.int .i64 0)))⟩])
 (.both (.both (.seq [⟨(some 6), none, .plain (.mov (.tmp 0))⟩,
 ⟨(some 7), none, .plain (.len .sl (.tmp 6))⟩,
 ⟨(some 8), none, .plain (.mov (.const (.int .i64 0)))⟩])
 (.block 0 (.loop (.both (.seq [⟨(some 9), none, .plain (.bin .lss (.tmp 8) (.tmp 7))⟩])
 (.both (.cond (.tmp 9)
 .skip
 (.exit 0))
 (.both (.block 1 (.both (.seq [⟨(some 10), none, .plain (.iaddr none 2 (.tmp 6) (.tmp 8))⟩,
 ⟨(some 11), none, .plain (.load (some 2) (.tmp 10))⟩,
 ⟨(some 5), none, .plain (.alloc [(.int .i64 0), (.int .i64 0)])⟩,
 ⟨none, none, .plain (.store 2 (.tmp 5) (.tmp 11))⟩])
 (.seq [⟨(some 12), none, .plain (.mov (.tmp 3))⟩,
 ⟨(some 13), none, .plain (.faddr 1 (.tmp 5))⟩,
 ⟨(some 14), none, .plain (.load none (.tmp 13))⟩,
 ⟨(some 15), none, .plain (.faddr 0 (.tmp 5))⟩,
 ⟨(some 16), none, .plain (.load none (.tmp 15))⟩,
 ⟨(some 17), none, .plain (.bin .sub (.tmp 14) (.tmp 16))⟩,
 ⟨(some 18), none, .plain (.minmax true (.const (.int .i64 0)) [(.tmp 17)])⟩,
 ⟨(some 19), none, .plain (.bin .add (.tmp 12) (.tmp 18))⟩,
 ⟨(some 3), none, .plain (.mov (.tmp 19))⟩])))
 (.seq [⟨(some 20), none, .plain (.bin .add (.tmp 8) (.const (.int .i64 1)))⟩,
 ⟨(some 8), none, .plain (.mov (.tmp 20))⟩])))))))
 (.both (.seq [⟨(some 21), none, .plain (.mov (.tmp 0))⟩,
 ⟨(some 22), none, .call 62 [(.tmp 21)]⟩,
 ⟨(some 23), none, .call 63 [(.tmp 22)]⟩,
 ⟨(some 24), none, .plain (.mov (.tmp 3))⟩,
 ⟨(some 25), none, .plain (.bin .eql (.tmp 23) (.tmp 24))⟩,
 ⟨(some 2), none, .plain (.mov (.tmp 25))⟩])
 .ret))))⟩
/-- fettle/fettleref01.Int -/
def a39 : AFunc := ⟨3, [.tmp 6],
 (.both (.seq [⟨(some 6), none, .plain (.mov (.const (.int .i64 0)))⟩])
 (.both (.seq [⟨(some 10), none, .plain (.mov (.tmp 0))⟩,
 ⟨(some 11), none, .plain (.mov (.tmp 1))⟩,
 ⟨(some 12), none, .plain (.mov (.tmp 2))⟩,
 ⟨(some 13), none, .call 64 [(.tmp 10), (.tmp 11), (.tmp 12)]⟩,
 ⟨(some 9), none, .plain (.mov (.tmp 13))⟩,
 ⟨(some 14), none, .plain (.extract (.tmp 9) 0)⟩,
 ⟨(some 15), none, .plain (.extract (.tmp 9) 1)⟩,
 ⟨(some 7), none, .plain (.mov (.tmp 14))⟩,
 ⟨(some 8), none, .plain (.mov (.tmp 15))⟩])
 (.both (.seq [⟨(some 16), none, .plain (.mov (.tmp 7))⟩,
 ⟨(some 17), none, .plain (.conv (.int .i64) (.tmp 16))⟩,
 ⟨(some 6), none, .plain (.mov (.tmp 17))⟩])
 .ret)))⟩
/-- fettle/fettlelaw14.table -/
def a40 : AFunc := ⟨0, [.cell 0 (some 22)],
 (.both (.seq [⟨(some 0), none, .plain (.alloc [(.int .i64 0), (.int .i64 0), (.int .i64 0), (.int .u8 0), (.int .u8 0), (.int .u8 0), (.int .u8 0), (.int .u8 0), (.int .u8 0), (.int .u8 0), (.int .u8 0), (.int .u8 0), (.int .u8 0), (.int .u8 0), (.int .u8 0), (.int .u8 0), (.int .u8 0), (.int .u8 0), (.int .u8 0), (.slice none 0 0), (.int .i64 0), (.int .i64 0)])⟩])
 (.both (.seq [⟨(some 2), none, .plain (.makeSlice ⟨114, 128, [(.int .u8 0), (.int .u8 0), (.int .u8 0), (.int .u8 0), (.int .u8 0), (.int .u8 0), (.int .u8 0), (.int .u8 0), (.int .u8 0), (.int .u8 0), (.int .u8 0), (.int .u8 0), (.int .u8 0), (.int .u8 0), (.int .u8 0), (.int .u8 0), (.int .u8 0), (.int .u8 0), (.int .u8 0), (.int .u8 0), (.int .u8 0), (.int .u8 0), (.int .u8 0), (.int .u8 0), (.int .u8 0), (.int .u8 0), (.int .u8 0), (.int .u8 0), (.int .u8 0), (.int .u8 0), (.int .u8 0), (.int .u8 0), (.int .i64 0), (.int .i64 0), (.int .u8 0), (.int .u8 0), (.int .u8 0), (.int .u8 0), (.int .u8 0), (.int .u8 0), (.int .u8 0), (.int .u8 0), (.int .u8 0), (.int .u8 0), (.int .u8 0), (.int .u8 0), (.int .u8 0), (.int .u8 0), (.int .u8 0), (.int .u8 0), (.int .u8 0), (.int .u8 0), (.int .u8 0), (.int .u8 0), (.int .u8 0), (.int .u8 0), (.int .u8 0), (.int .u8 0), (.int .u8 0), (.int .u8 0), (.int .u8 0), (.int .u8 0), (.int .u8 0), (.int .u8 0), (.int .u8 0), (.int .u8 0), (.int .u8 0), (.int .u8 0), (.int .u8 0), (.int .u8 0), (.int .u8 0), (.int .u8 0), (.int .u8 0), (.int .u8 0), (.int .u8 0), (.int .u8 0), (.int .u8 0), (.int .u8 0), (.int .u8 0), (.int .u8 0), (.int .u8 0), (.int .u8 0), (.int .u8 0), (.int .u8 0), (.int .u8 0), (.int .u8 0), (.int .u8 0), (.int .u8 0), (.int .u8 0), (.int .u8 0), (.int .u8 0), (.int .u8 0), (.int .u8 0), (.int .u8 0), (.int .u8 0), (.int .u8 0), (.int .u8 0), (.int .u8 0), (.int .u8 0), (.int .u8 0), (.int .u8 0), (.int .u8 0), (.int .u8 0), (.int .u8 0), (.int .u8 0), (.int .u8 0), (.int .u8 0), (.int .u8 0), (.int .u8 0), (.int .u8 0), (.int .u8 0), (.int .u8 0), (.int .u8 0), (.int .u8 0)]⟩ (.const (.int .i64 4)) (.const (.int .i64 4)))⟩,
 ⟨(some 3), none, .plain (.build (.str [(.int .i64 0), (.int .i64 0), (.int .i64 0), (.int .u8 0), (.int .u8 0), (.int .u8 0), (.int .u8 0), (.int .u8 0), (.int .u8 0), (.int .u8 0), (.int .u8 0), (.int .u8 0), (.int .u8 0), (.int .u8 0), (.int .u8 0), (.int .u8 0), (.int .u8 0), (.int .u8 0), (.int .u8 0), (.slice none 0 0), (.int .i64 0), (.int .i64 0)] [(0, 1), (1, 1), (2, 1), (3, 16), (19, 1), (20, 1), (21, 1)]) [(0, (.const (.int .i64 64))), (1, (.const (.int .i64 3))), (2, (.const (.int .i64 61))), (5, (.const (.int .i64 2))), (6, (.const (.int .i64 62))), (4, (.tmp 2))])⟩,
 ⟨(some 1), none, .plain (.alloc [(.int .i64 0), (.int .i64 0), (.int .i64 0), (.int .u8 0), (.int .u8 0), (.int .u8 0), (.int .u8 0), (.int .u8 0), (.int .u8 0), (.int .u8 0), (.int .u8 0), (.int .u8 0), (.int .u8 0), (.int .u8 0), (.int .u8 0), (.int .u8 0), (.int .u8 0), (.int .u8 0), (.int .u8 0), (.slice none 0 0), (.int .i64 0), (.int .i64 0)])⟩,
 ⟨none, none, .plain (.store 22 (.tmp 1) (.tmp 3))⟩])
 (.both (.seq [⟨(some 4), none, .plain (.faddr 19 (.tmp 1))⟩,
 ⟨(some 5), none, .plain (.load none (.tmp 4))⟩,
 ⟨(some 6), none, .plain (.iaddr none 114 (.tmp 5) (.const (.int .i64 1)))⟩,
 ⟨(some 7), none, .plain (.faddr 0 (.tmp 6))⟩,
 ⟨(some 8), none, .plain (.iaddr (some 32) 1 (.tmp 7) (.const (.int .i64 0)))⟩,
 ⟨none, none, .plain (.store 1 (.tmp 8) (.const (.int .u8 9)))⟩])
 (.both (.draw 0 [⟨0, .pure, 0, ⟨(some 9), none, .plain (.faddr 19 (.tmp 1))⟩, [], []⟩,
 ⟨1, .read, 0, ⟨(some 10), none, .plain (.load none (.tmp 9))⟩, [], []⟩,
 ⟨2, .pure, 0, ⟨(some 11), none, .plain (.faddr 19 (.tmp 1))⟩, [], []⟩,
 ⟨3, .read, 0, ⟨(some 12), none, .plain (.load none (.tmp 11))⟩, [], []⟩,
 ⟨4, .pure, 0, ⟨(some 13), none, .plain (.iaddr none 114 (.tmp 10) (.const (.int .i64 1)))⟩, [], []⟩,
 ⟨5, .pure, 0, ⟨(some 14), none, .plain (.faddr 32 (.tmp 13))⟩, [], []⟩,
 ⟨6, .chain, 0, ⟨none, none, .plain (.store 1 (.tmp 14) (.const (.int .i64 10)))⟩, [3], []⟩,
 ⟨7, .pure, 0, ⟨(some 15), none, .plain (.iaddr none 114 (.tmp 12) (.const (.int .i64 1)))⟩, [], []⟩,
 ⟨8, .pure, 0, ⟨(some 16), none, .plain (.faddr 33 (.tmp 15))⟩, [], []⟩,
 ⟨9, .chain, 0, ⟨none, none, .plain (.store 1 (.tmp 16) (.const (.int .i64 20)))⟩, [], []⟩])
 (.both (.seq [⟨(some 17), none, .plain (.load (some 22) (.tmp 1))⟩,
 ⟨none, none, .plain (.store 22 (.tmp 0) (.tmp 17))⟩])
 .ret)))))⟩
/-- (fettle/gpt.Table).Parts -/
def a41 : AFunc := ⟨1, [.tmp 2],
 (.both (.seq [⟨(some 1), none, .plain (.box (.tmp 0))⟩,
 ⟨(some 2), none, .plain (.mov (.const (.slice none 0 0)))⟩])
 (.both (.seq [⟨(some 3), none, .plain (.mov (.const (.slice none 0 0)))⟩])
 (.both (.both (.seq [⟨(some 6), none, .plain (.faddr 19 (.tmp 1))⟩,
 ⟨(some 7), none, .plain (.load none (.tmp 6))⟩,
 ⟨(some 8), none, .plain (.len .sl (.tmp 7))⟩,
 ⟨(some 9), none, .plain (.mov (.const (.int .i64 0)))⟩])
 (.block 0 (.loop (.both (.seq [⟨(some 10), none, .plain (.bin .lss (.tmp 9) (.tmp 8))⟩])
 (.both (.cond (.tmp 10)
 .skip
 (.exit 0))
 (.both (.block 1 (.both (.seq [⟨(some 11), none, .plain (.mov (.tmp 9))⟩,
 ⟨(some 12), none, .plain (.iaddr none 114 (.tmp 7) (.tmp 9))⟩,
 ⟨(some 13), none, .plain (.load (some 114) (.tmp 12))⟩,
 ⟨(some 5), none, .plain (.alloc [(.int .u8 0), (.int .u8 0), (.int .u8 0), (.int .u8 0), (.int .u8 0), (.int .u8 0), (.int .u8 0), (.int .u8 0), (.int .u8 0), (.int .u8 0), (.int .u8 0), (.int .u8 0), (.int .u8 0), (.int .u8 0), (.int .u8 0), (.int .u8 0), (.int .u8 0), (.int .u8 0), (.int .u8 0), (.int .u8 0), (.int .u8 0), (.int .u8 0), (.int .u8 0), (.int .u8 0), (.int .u8 0), (.int .u8 0), (.int .u8 0), (.int .u8 0), (.int .u8 0), (.int .u8 0), (.int .u8 0), (.int .u8 0), (.int .i64 0), (.int .i64 0), (.int .u8 0), (.int .u8 0), (.int .u8 0), (.int .u8 0), (.int .u8 0), (.int .u8 0), (.int .u8 0), (.int .u8 0), (.int .u8 0), (.int .u8 0), (.int .u8 0), (.int .u8 0), (.int .u8 0), (.int .u8 0), (.int .u8 0), (.int .u8 0), (.int .u8 0), (.int .u8 0), (.int .u8 0), (.int .u8 0), (.int .u8 0), (.int .u8 0), (.int .u8 0), (.int .u8 0), (.int .u8 0), (.int .u8 0), (.int .u8 0), (.int .u8 0), (.int .u8 0), (.int .u8 0), (.int .u8 0), (.int .u8 0), (.int .u8 0), (.int .u8 0), (.int .u8 0), (.int .u8 0), (.int .u8 0), (.int .u8 0), (.int .u8 0), (.int .u8 0), (.int .u8 0), (.int .u8 0), (.int .u8 0), (.int .u8 0), (.int .u8 0), (.int .u8 0), (.int .u8 0), (.int .u8 0), (.int .u8 0), (.int .u8 0), (.int .u8 0), (.int .u8 0), (.int .u8 0), (.int .u8 0), (.int .u8 0), (.int .u8 0), (.int .u8 0), (.int .u8 0), (.int .u8 0), (.int .u8 0), (.int .u8 0), (.int .u8 0), (.int .u8 0), (.int .u8 0), (.int .u8 0), (.int .u8 0), (.int .u8 0), (.int .u8 0), (.int .u8 0), (.int .u8 0), (.int .u8 0), (.int .u8 0), (.int .u8 0), (.int .u8 0), (.int .u8 0), (.int .u8 0), (.int .u8 0), (.int .u8 0), (.int .u8 0), (.int .u8 0)])⟩,
 ⟨(some 4), none, .plain (.mov (.tmp 11))⟩,
 ⟨none, none, .plain (.store 114 (.tmp 5) (.tmp 13))⟩])
 (.both (.seq [⟨(some 14), none, .plain (.load (some 114) (.tmp 5))⟩,
 ⟨(some 15), none, .call 43 [(.tmp 14)]⟩,
 ⟨(some 16), none, .plain (.un .not (.tmp 15))⟩])
 (.cond (.tmp 16)
 (.seq [⟨(some 17), none, .plain (.mov (.tmp 3))⟩,
 ⟨(some 18), none, .plain (.faddr 32 (.tmp 5))⟩,
 ⟨(some 19), none, .plain (.load none (.tmp 18))⟩,
 ⟨(some 20), none, .plain (.bin .mul (.tmp 19) (.const (.int .i64 512)))⟩,
 ⟨(some 21), none, .plain (.faddr 33 (.tmp 5))⟩,
 ⟨(some 22), none, .plain (.load none (.tmp 21))⟩,
 ⟨(some 23), none, .plain (.bin .add (.tmp 22) (.const (.int .i64 1)))⟩,
 ⟨(some 24), none, .plain (.bin .mul (.tmp 23) (.const (.int .i64 512)))⟩,
 ⟨(some 25), none, .plain (.build (.str [(.int .i64 0), (.int .i64 0)] [(0, 1), (1, 1)]) [(0, (.tmp 20)), (1, (.tmp 24))])⟩,
 ⟨(some 26), none, .plain (.mov (.tmp 4))⟩,
 ⟨(some 27), none, .plain (.build (.str [(.int .i64 0), (.int .i64 0), (.int .i64 0), (.int .i64 0)] [(0, 2), (2, 1), (3, 1)]) [(0, (.tmp 25)), (2, (.tmp 26))])⟩,
 ⟨(some 28), none, .plain (.buildSlice ⟨4, 32, [(.int .i64 0), (.int .i64 0), (.int .i64 0), (.int .i64 0)]⟩ 1 [(0, (.tmp 27))])⟩,
 ⟨(some 29), none, .plain (.append ⟨4, 32, [(.int .i64 0), (.int .i64 0), (.int .i64 0), (.int .i64 0)]⟩ false (.tmp 17) (.tmp 28))⟩,
 ⟨(some 3), none, .plain (.mov (.tmp 29))⟩])
 .skip))))
 (.seq [⟨(some 30), none, .plain (.bin .add (.tmp 9) (.const (.int .i64 1)))⟩,
 ⟨(some 9), none, .plain (.mov (.tmp 30))⟩])))))))
 (.both (.seq [⟨(some 31), none, .plain (.mov (.tmp 3))⟩,
 ⟨(some 2), none, .plain (.mov (.tmp 31))⟩])
 .ret))))⟩
/-- (fettle/gpt.Table).rows -/
def a42 : AFunc := ⟨1, [.tmp 2],
 (.both (.seq [⟨(some 1), none, .plain (.box (.tmp 0))⟩,
 ⟨(some 2), none, .plain (.mov (.const (.int .i64 0)))⟩])
 (.both (.seq [⟨(some 3), none, .plain (.faddr 19 (.tmp 1))⟩,
 ⟨(some 4), none, .plain (.load none (.tmp 3))⟩,
 ⟨(some 5), none, .plain (.len .sl (.tmp 4))⟩,
 ⟨(some 6), none, .plain (.bin .mul (.tmp 5) (.const (.int .i64 128)))⟩,
 ⟨(some 7), none, .plain (.bin .add (.tmp 6) (.const (.int .i64 512)))⟩,
 ⟨(some 8), none, .plain (.bin .sub (.tmp 7) (.const (.int .i64 1)))⟩,
 ⟨(some 9), none, .plain (.bin .quo (.tmp 8) (.const (.int .i64 512)))⟩,
 ⟨(some 2), none, .plain (.mov (.tmp 9))⟩])
 .ret))⟩
/-- (fettle/gpt.Entry).empty -/
def a43 : AFunc := ⟨1, [.tmp 2],
 (.both (.seq [⟨(some 1), none, .plain (.box (.tmp 0))⟩,
 ⟨(some 2), none, .plain (.mov (.const (.bool false)))⟩])
 (.both (.seq [⟨(some 3), none, .plain (.faddr 0 (.tmp 1))⟩,
 ⟨(some 4), none, .plain (.cut (.arr 32 1) (.tmp 3) none (some (.const (.int .i64 16))) none)⟩,
 ⟨(some 5), none, .call 65 [(.tmp 4)]⟩,
 ⟨(some 2), none, .plain (.mov (.tmp 5))⟩])
 .ret))⟩
/-- fettle/fettleref14.rows -/
def a44 : AFunc := ⟨1, [.tmp 2],
 (.both (.seq [⟨(some 2), none, .plain (.mov (.const (.int .i64 0)))⟩])
 (.both (.seq [⟨(some 4), none, .plain (.mov (.tmp 0))⟩,
 ⟨(some 5), none, .plain (.bin .mul (.tmp 4) (.const (.int .i64 128)))⟩,
 ⟨(some 6), none, .plain (.bin .quo (.tmp 5) (.const (.int .i64 512)))⟩,
 ⟨(some 3), none, .plain (.mov (.tmp 6))⟩])
 (.both (.both (.seq [⟨(some 7), none, .plain (.mov (.tmp 0))⟩,
 ⟨(some 8), none, .plain (.bin .mul (.tmp 7) (.const (.int .i64 128)))⟩,
 ⟨(some 9), none, .plain (.bin .rem (.tmp 8) (.const (.int .i64 512)))⟩,
 ⟨(some 10), none, .plain (.bin .neq (.tmp 9) (.const (.int .i64 0)))⟩])
 (.cond (.tmp 10)
 (.seq [⟨(some 11), none, .plain (.mov (.tmp 3))⟩,
 ⟨(some 12), none, .plain (.bin .add (.tmp 11) (.const (.int .i64 1)))⟩,
 ⟨(some 3), none, .plain (.mov (.tmp 12))⟩])
 .skip))
 (.both (.seq [⟨(some 13), none, .plain (.mov (.tmp 3))⟩,
 ⟨(some 2), none, .plain (.mov (.tmp 13))⟩])
 .ret))))⟩
/-- fettle/fettleref01.IsZero -/
def a45 : AFunc := ⟨1, [.tmp 2],
 (.both (.seq [⟨(some 2), none, .plain (.mov (.const (.bool false)))⟩])
 (.both (.both (.seq [⟨(some 3), none, .plain (.mov (.const (.int .i64 0)))⟩])
 (.block 0 (.loop (.both (.both (.seq [⟨(some 4), none, .plain (.mov (.tmp 3))⟩,
 ⟨(some 5), none, .plain (.mov (.tmp 0))⟩,
 ⟨(some 6), none, .plain (.len .sl (.tmp 5))⟩,
 ⟨(some 7), none, .plain (.bin .lss (.tmp 4) (.tmp 6))⟩])
 (.cond (.tmp 7)
 .skip
 (.exit 0)))
 (.both (.block 1 (.both (.seq [⟨(some 10), none, .plain (.mov (.tmp 0))⟩,
 ⟨(some 11), none, .plain (.mov (.tmp 3))⟩,
 ⟨(some 12), none, .plain (.iaddr none 1 (.tmp 10) (.tmp 11))⟩,
 ⟨(some 13), none, .plain (.load none (.tmp 12))⟩,
 ⟨(some 14), none, .plain (.bin .neq (.tmp 13) (.const (.int .u8 0)))⟩])
 (.cond (.tmp 14)
 (.both (.seq [⟨(some 2), none, .plain (.mov (.const (.bool false)))⟩])
 .ret)
 .skip)))
 (.seq [⟨(some 8), none, .plain (.mov (.tmp 3))⟩,
 ⟨(some 9), none, .plain (.bin .add (.tmp 8) (.const (.int .i64 1)))⟩,
 ⟨(some 3), none, .plain (.mov (.tmp 9))⟩]))))))
 (.both (.seq [⟨(some 2), none, .plain (.mov (.const (.bool true)))⟩])
 .ret)))⟩
/-- fettle/fettleref03.Apart -/
def a46 : AFunc := ⟨1, [.tmp 2],
 (.both (.seq [⟨(some 2), none, .plain (.mov (.const (.bool false)))⟩])
 (.both (.both (.seq [⟨(some 3), none, .plain (.mov (.const (.int .i64 0)))⟩])
 (.block 0 (.loop (.both (.both (.seq [⟨(some 5), none, .plain (.mov (.tmp 3))⟩,
 ⟨(some 6), none, .plain (.mov (.tmp 0))⟩,
 ⟨(some 7), none, .plain (.len .sl (.tmp 6))⟩,
 ⟨(some 8), none, .plain (.bin .lss (.tmp 5) (.tmp 7))⟩])
 (.cond (.tmp 8)
 .skip
 (.exit 0)))
 (.both (.block 1 (.both (.seq [⟨(some 4), none, .plain (.mov (.const (.int .i64 0)))⟩])
 (.block 2 (.loop (.both (.both (.seq [⟨(some 11), none, .plain (.mov (.tmp 4))⟩,
 ⟨(some 12), none, .plain (.mov (.tmp 3))⟩,
 ⟨(some 13), none, .plain (.bin .lss (.tmp 11) (.tmp 12))⟩])
 (.cond (.tmp 13)
 .skip
 (.exit 2)))
 (.both (.block 3 (.both (.draw 2 [⟨0, .pure, 0, ⟨(some 16), none, .plain (.mov (.tmp 0))⟩, [], []⟩,
 ⟨1, .pure, 0, ⟨(some 17), none, .plain (.mov (.tmp 3))⟩, [], []⟩,
 ⟨2, .pure, 0, ⟨(some 18), none, .plain (.iaddr none 2 (.tmp 16) (.tmp 17))⟩, [], []⟩,
 ⟨3, .read, 0, ⟨(some 19), none, .plain (.load (some 2) (.tmp 18))⟩, [], []⟩,
 ⟨5, .pure, 0, ⟨(some 21), none, .plain (.mov (.tmp 0))⟩, [], []⟩,
 ⟨6, .pure, 0, ⟨(some 22), none, .plain (.mov (.tmp 4))⟩, [], []⟩,
 ⟨7, .pure, 0, ⟨(some 23), none, .plain (.iaddr none 2 (.tmp 21) (.tmp 22))⟩, [], []⟩,
 ⟨8, .read, 0, ⟨(some 24), none, .plain (.load (some 2) (.tmp 23))⟩, [], []⟩,
 ⟨4, .fresh, 0, ⟨(some 20), none, .plain (.buildSlice ⟨2, 16, [(.int .i64 0), (.int .i64 0)]⟩ 1 [(0, (.tmp 19))])⟩, [], []⟩,
 ⟨9, .fresh, 1, ⟨(some 25), none, .plain (.buildSlice ⟨2, 16, [(.int .i64 0), (.int .i64 0)]⟩ 1 [(0, (.tmp 24))])⟩, [], []⟩,
 ⟨10, .chain, 0, ⟨(some 26), none, .call 66 [(.tmp 20), (.tmp 25), (.const (.int .i64 0))]⟩, [], []⟩,
 ⟨11, .pure, 0, ⟨(some 27), none, .plain (.len .sl (.tmp 26))⟩, [], []⟩,
 ⟨12, .pure, 0, ⟨(some 28), none, .plain (.bin .gtr (.tmp 27) (.const (.int .i64 0)))⟩, [], []⟩])
 (.cond (.tmp 28)
 (.both (.seq [⟨(some 2), none, .plain (.mov (.const (.bool false)))⟩])
 .ret)
 .skip)))
 (.seq [⟨(some 14), none, .plain (.mov (.tmp 4))⟩,
 ⟨(some 15), none, .plain (.bin .add (.tmp 14) (.const (.int .i64 1)))⟩,
 ⟨(some 4), none, .plain (.mov (.tmp 15))⟩])))))))
 (.seq [⟨(some 9), none, .plain (.mov (.tmp 3))⟩,
 ⟨(some 10), none, .plain (.bin .add (.tmp 9) (.const (.int .i64 1)))⟩,
 ⟨(some 3), none, .plain (.mov (.tmp 10))⟩]))))))
 (.both (.seq [⟨(some 2), none, .plain (.mov (.const (.bool true)))⟩])
 .ret)))⟩
/-- fettle/fettleref01.Part -/
def a47 : AFunc := ⟨3, [.tmp 6],
 (.both (.seq [⟨(some 6), none, .plain (.mov (.const (.slice none 0 0)))⟩])
 (.both (.seq [⟨(some 7), none, .plain (.mov (.const (.slice none 0 0)))⟩])
 (.both (.seq [⟨(some 8), none, .plain (.mov (.tmp 7))⟩,
 ⟨(some 9), none, .plain (.mov (.tmp 0))⟩,
 ⟨(some 10), none, .plain (.mov (.tmp 1))⟩,
 ⟨(some 11), none, .plain (.mov (.tmp 1))⟩,
 ⟨(some 12), none, .plain (.mov (.tmp 2))⟩,
 ⟨(some 13), none, .plain (.bin .add (.tmp 11) (.tmp 12))⟩,
 ⟨(some 14), none, .plain (.cut (.sl 1) (.tmp 9) (some (.tmp 10)) (some (.tmp 13)) none)⟩,
 ⟨(some 15), none, .plain (.append ⟨1, 1, [(.int .u8 0)]⟩ false (.tmp 8) (.tmp 14))⟩,
 ⟨(some 6), none, .plain (.mov (.tmp 15))⟩])
 .ret)))⟩
/-- fettle/fettlelaw14.summed -/
def a48 : AFunc := ⟨2, [.tmp 4],
 (.both (.seq [⟨(some 4), none, .plain (.mov (.const (.slice none 0 0)))⟩])
 (.both (.draw 0 [⟨0, .pure, 0, ⟨(some 6), none, .plain (.mov (.tmp 0))⟩, [], []⟩,
 ⟨1, .pure, 0, ⟨(some 7), none, .plain (.mov (.tmp 1))⟩, [], []⟩,
 ⟨2, .pure, 0, ⟨(some 8), none, .plain (.mov (.tmp 1))⟩, [], []⟩,
 ⟨3, .pure, 0, ⟨(some 9), none, .plain (.bin .add (.tmp 8) (.const (.int .i64 92)))⟩, [], []⟩,
 ⟨4, .read, 0, ⟨(some 10), none, .plain (.cut (.sl 1) (.tmp 6) (some (.tmp 7)) (some (.tmp 9)) none)⟩, [], []⟩,
 ⟨5, .chain, 0, ⟨(some 11), none, .call 25 [(.const (.int .i64 4))]⟩, [4], []⟩,
 ⟨6, .chain, 0, ⟨(some 12), none, .call 27 [(.tmp 10), (.const (.int .i64 16)), (.tmp 11)]⟩, [], []⟩,
 ⟨7, .pure, 0, ⟨(some 5), none, .plain (.mov (.tmp 12))⟩, [], []⟩])
 (.both (.seq [⟨(some 13), none, .plain (.mov (.tmp 0))⟩,
 ⟨(some 14), none, .plain (.mov (.tmp 1))⟩,
 ⟨(some 15), none, .plain (.bin .add (.tmp 14) (.const (.int .i64 16)))⟩,
 ⟨(some 16), none, .plain (.mov (.tmp 5))⟩,
 ⟨(some 17), none, .call 67 [(.tmp 16)]⟩,
 ⟨(some 18), none, .plain (.conv (.int .u64) (.tmp 17))⟩,
 ⟨(some 19), none, .call 32 [(.tmp 18), (.const (.int .i64 4))]⟩,
 ⟨(some 20), none, .call 27 [(.tmp 13), (.tmp 15), (.tmp 19)]⟩,
 ⟨(some 4), none, .plain (.mov (.tmp 20))⟩])
 .ret)))⟩
/-- fettle/gpt.header -/
def a49 : AFunc := ⟨1, [.cell 2 (some 22), .tmp 3, .tmp 4, .tmp 5, .tmp 6, .tmp 7],
 (.both (.seq [⟨(some 2), none, .plain (.alloc [(.int .i64 0), (.int .i64 0), (.int .i64 0), (.int .u8 0), (.int .u8 0), (.int .u8 0), (.int .u8 0), (.int .u8 0), (.int .u8 0), (.int .u8 0), (.int .u8 0), (.int .u8 0), (.int .u8 0), (.int .u8 0), (.int .u8 0), (.int .u8 0), (.int .u8 0), (.int .u8 0), (.int .u8 0), (.slice none 0 0), (.int .i64 0), (.int .i64 0)])⟩,
 ⟨(some 3), none, .plain (.mov (.const (.int .i64 0)))⟩,
 ⟨(some 4), none, .plain (.mov (.const (.int .u32 0)))⟩,
 ⟨(some 5), none, .plain (.mov (.const (.int .i64 0)))⟩,
 ⟨(some 6), none, .plain (.mov (.const (.int .i64 0)))⟩,
 ⟨(some 7), none, .plain (.mov (.const (.int .i64 0)))⟩])
 (.both (.both (.seq [⟨(some 20), none, .plain (.mov (.tmp 0))⟩,
 ⟨(some 21), none, .plain (.cut (.sl 1) (.tmp 20) none (some (.const (.int .i64 8))) none)⟩,
 ⟨(some 22), none, .plain (.conv .b2s (.tmp 21))⟩,
 ⟨(some 23), none, .plain (.bin .neq (.tmp 22) (.const (.string ⟨#[69, 70, 73, 32, 80, 65, 82, 84]⟩)))⟩])
 (.cond (.tmp 23)
 (.both (.seq [⟨(some 24), none, .plain (.build (.str [(.int .i64 0), (.int .i64 0), (.int .i64 0), (.int .u8 0), (.int .u8 0), (.int .u8 0), (.int .u8 0), (.int .u8 0), (.int .u8 0), (.int .u8 0), (.int .u8 0), (.int .u8 0), (.int .u8 0), (.int .u8 0), (.int .u8 0), (.int .u8 0), (.int .u8 0), (.int .u8 0), (.int .u8 0), (.slice none 0 0), (.int .i64 0), (.int .i64 0)] [(0, 1), (1, 1), (2, 1), (3, 16), (19, 1), (20, 1), (21, 1)]) [])⟩,
 ⟨none, none, .plain (.store 22 (.tmp 2) (.tmp 24))⟩,
 ⟨(some 3), none, .plain (.mov (.const (.int .i64 0)))⟩,
 ⟨(some 4), none, .plain (.mov (.const (.int .u32 0)))⟩,
 ⟨(some 5), none, .plain (.mov (.const (.int .i64 0)))⟩,
 ⟨(some 6), none, .plain (.mov (.const (.int .i64 0)))⟩,
 ⟨(some 7), none, .plain (.mov (.const (.int .i64 10)))⟩])
 .ret)
 .skip))
 (.both (.seq [⟨(some 26), none, .plain (.mov (.tmp 0))⟩,
 ⟨(some 27), none, .call 61 [(.tmp 26), (.const (.int .i64 8))]⟩,
 ⟨(some 25), none, .plain (.mov (.tmp 27))⟩,
 ⟨(some 28), none, .plain (.extract (.tmp 25) 0)⟩,
 ⟨(some 29), none, .plain (.extract (.tmp 25) 1)⟩,
 ⟨(some 8), none, .plain (.mov (.tmp 28))⟩,
 ⟨(some 9), none, .plain (.mov (.tmp 29))⟩])
 (.both (.seq [⟨(some 31), none, .plain (.mov (.tmp 0))⟩,
 ⟨(some 32), none, .call 61 [(.tmp 31), (.const (.int .i64 12))]⟩,
 ⟨(some 30), none, .plain (.mov (.tmp 32))⟩,
 ⟨(some 33), none, .plain (.extract (.tmp 30) 0)⟩,
 ⟨(some 34), none, .plain (.extract (.tmp 30) 1)⟩,
 ⟨(some 10), none, .plain (.mov (.tmp 33))⟩,
 ⟨(some 11), none, .plain (.mov (.tmp 34))⟩])
 (.both (.seq [⟨(some 36), none, .plain (.mov (.tmp 0))⟩,
 ⟨(some 37), none, .call 61 [(.tmp 36), (.const (.int .i64 16))]⟩,
 ⟨(some 35), none, .plain (.mov (.tmp 37))⟩,
 ⟨(some 38), none, .plain (.extract (.tmp 35) 0)⟩,
 ⟨(some 39), none, .plain (.extract (.tmp 35) 1)⟩,
 ⟨(some 12), none, .plain (.mov (.tmp 38))⟩,
 ⟨(some 13), none, .plain (.mov (.tmp 39))⟩])
 (.both (.seq [⟨(some 41), none, .plain (.mov (.tmp 0))⟩,
 ⟨(some 42), none, .call 61 [(.tmp 41), (.const (.int .i64 20))]⟩,
 ⟨(some 40), none, .plain (.mov (.tmp 42))⟩,
 ⟨(some 43), none, .plain (.extract (.tmp 40) 0)⟩,
 ⟨(some 44), none, .plain (.extract (.tmp 40) 1)⟩,
 ⟨(some 14), none, .plain (.mov (.tmp 43))⟩,
 ⟨(some 15), none, .plain (.mov (.tmp 44))⟩])
 (.both (.seq [⟨(some 46), none, .plain (.mov (.tmp 0))⟩,
 ⟨(some 47), none, .call 61 [(.tmp 46), (.const (.int .i64 80))]⟩,
 ⟨(some 45), none, .plain (.mov (.tmp 47))⟩,
 ⟨(some 48), none, .plain (.extract (.tmp 45) 0)⟩,
 ⟨(some 49), none, .plain (.extract (.tmp 45) 1)⟩,
 ⟨(some 16), none, .plain (.mov (.tmp 48))⟩,
 ⟨(some 17), none, .plain (.mov (.tmp 49))⟩])
 (.both (.seq [⟨(some 51), none, .plain (.mov (.tmp 0))⟩,
 ⟨(some 52), none, .call 61 [(.tmp 51), (.const (.int .i64 84))]⟩,
 ⟨(some 50), none, .plain (.mov (.tmp 52))⟩,
 ⟨(some 53), none, .plain (.extract (.tmp 50) 0)⟩,
 ⟨(some 54), none, .plain (.extract (.tmp 50) 1)⟩,
 ⟨(some 18), none, .plain (.mov (.tmp 53))⟩,
 ⟨(some 19), none, .plain (.mov (.tmp 54))⟩])
 (.both (.seq [⟨(some 56), none, .plain (.mov (.tmp 0))⟩,
 ⟨(some 57), none, .call 61 [(.tmp 56), (.const (.int .i64 88))]⟩,
 ⟨(some 55), none, .plain (.mov (.tmp 57))⟩,
 ⟨(some 58), none, .plain (.extract (.tmp 55) 0)⟩,
 ⟨(some 59), none, .plain (.extract (.tmp 55) 1)⟩,
 ⟨(some 4), none, .plain (.mov (.tmp 58))⟩])
 (.both (.block 0 (.both (.seq [⟨(some 61), none, .plain (.mov (.tmp 8))⟩,
 ⟨(some 62), none, .plain (.bin .neq (.tmp 61) (.const (.int .u32 65536)))⟩,
 ⟨(some 63), none, .plain (.mov (.tmp 62))⟩,
 ⟨(some 64), (some (63, false)), .plain (.mov (.tmp 10))⟩,
 ⟨(some 65), (some (63, false)), .plain (.bin .neq (.tmp 64) (.const (.int .u32 92)))⟩,
 ⟨(some 66), none, .plain (.pick (.tmp 63) (.const (.bool true)) (.tmp 65))⟩,
 ⟨(some 67), none, .plain (.mov (.tmp 66))⟩,
 ⟨(some 68), (some (67, false)), .plain (.mov (.tmp 14))⟩,
 ⟨(some 69), (some (67, false)), .plain (.bin .neq (.tmp 68) (.const (.int .u32 0)))⟩,
 ⟨(some 70), none, .plain (.pick (.tmp 67) (.const (.bool true)) (.tmp 69))⟩,
 ⟨(some 71), none, .plain (.mov (.tmp 70))⟩,
 ⟨(some 72), (some (71, false)), .plain (.mov (.tmp 18))⟩,
 ⟨(some 73), (some (71, false)), .plain (.bin .neq (.tmp 72) (.const (.int .u32 128)))⟩,
 ⟨(some 74), none, .plain (.pick (.tmp 71) (.const (.bool true)) (.tmp 73))⟩,
 ⟨(some 75), none, .plain (.mov (.tmp 74))⟩,
 ⟨(some 76), (some (75, false)), .plain (.mov (.tmp 16))⟩,
 ⟨(some 77), (some (75, false)), .plain (.bin .lss (.tmp 76) (.const (.int .u32 1)))⟩,
 ⟨(some 78), none, .plain (.pick (.tmp 75) (.const (.bool true)) (.tmp 77))⟩,
 ⟨(some 79), none, .plain (.mov (.tmp 78))⟩,
 ⟨(some 80), (some (79, false)), .plain (.mov (.tmp 16))⟩,
 ⟨(some 81), (some (79, false)), .plain (.bin .gtr (.tmp 80) (.const (.int .u32 128)))⟩,
 ⟨(some 82), none, .plain (.pick (.tmp 79) (.const (.bool true)) (.tmp 81))⟩,
 ⟨(some 83), none, .plain (.mov (.tmp 82))⟩,
 ⟨(some 84), (some (83, false)), .plain (.mov (.tmp 0))⟩,
 ⟨(some 85), (some (83, false)), .plain (.cut (.sl 1) (.tmp 84) (some (.const (.int .i64 92))) none none)⟩,
 ⟨(some 86), (some (83, false)), .call 65 [(.tmp 85)]⟩,
 ⟨(some 87), (some (83, false)), .plain (.un .not (.tmp 86))⟩,
 ⟨(some 88), none, .plain (.pick (.tmp 83) (.const (.bool true)) (.tmp 87))⟩,
 ⟨(some 60), none, .plain (.mov (.tmp 88))⟩])
 (.cond (.tmp 60)
 (.both (.seq [⟨(some 89), none, .plain (.build (.str [(.int .i64 0), (.int .i64 0), (.int .i64 0), (.int .u8 0), (.int .u8 0), (.int .u8 0), (.int .u8 0), (.int .u8 0), (.int .u8 0), (.int .u8 0), (.int .u8 0), (.int .u8 0), (.int .u8 0), (.int .u8 0), (.int .u8 0), (.int .u8 0), (.int .u8 0), (.int .u8 0), (.int .u8 0), (.slice none 0 0), (.int .i64 0), (.int .i64 0)] [(0, 1), (1, 1), (2, 1), (3, 16), (19, 1), (20, 1), (21, 1)]) [])⟩,
 ⟨none, none, .plain (.store 22 (.tmp 2) (.tmp 89))⟩,
 ⟨(some 3), none, .plain (.mov (.const (.int .i64 0)))⟩,
 ⟨(some 4), none, .plain (.mov (.const (.int .u32 0)))⟩,
 ⟨(some 5), none, .plain (.mov (.const (.int .i64 0)))⟩,
 ⟨(some 6), none, .plain (.mov (.const (.int .i64 0)))⟩,
 ⟨(some 7), none, .plain (.mov (.const (.int .i64 11)))⟩])
 .ret)
 (.both (.seq [⟨(some 91), none, .plain (.mov (.tmp 12))⟩,
 ⟨(some 92), none, .plain (.mov (.tmp 0))⟩,
 ⟨(some 93), none, .plain (.cut (.sl 1) (.tmp 92) none (some (.const (.int .i64 92))) none)⟩,
 ⟨(some 94), none, .call 68 [(.tmp 93), (.const (.int .i64 16))]⟩,
 ⟨(some 95), none, .plain (.bin .neq (.tmp 91) (.tmp 94))⟩,
 ⟨(some 90), none, .plain (.mov (.tmp 95))⟩])
 (.cond (.tmp 90)
 (.both (.seq [⟨(some 96), none, .plain (.build (.str [(.int .i64 0), (.int .i64 0), (.int .i64 0), (.int .u8 0), (.int .u8 0), (.int .u8 0), (.int .u8 0), (.int .u8 0), (.int .u8 0), (.int .u8 0), (.int .u8 0), (.int .u8 0), (.int .u8 0), (.int .u8 0), (.int .u8 0), (.int .u8 0), (.int .u8 0), (.int .u8 0), (.int .u8 0), (.slice none 0 0), (.int .i64 0), (.int .i64 0)] [(0, 1), (1, 1), (2, 1), (3, 16), (19, 1), (20, 1), (21, 1)]) [])⟩,
 ⟨none, none, .plain (.store 22 (.tmp 2) (.tmp 96))⟩,
 ⟨(some 3), none, .plain (.mov (.const (.int .i64 0)))⟩,
 ⟨(some 4), none, .plain (.mov (.const (.int .u32 0)))⟩,
 ⟨(some 5), none, .plain (.mov (.const (.int .i64 0)))⟩,
 ⟨(some 6), none, .plain (.mov (.const (.int .i64 0)))⟩,
 ⟨(some 7), none, .plain (.mov (.const (.int .i64 12)))⟩])
 .ret)
 .skip)))))
 (.both (.seq [⟨(some 97), none, .plain (.mov (.tmp 0))⟩,
 ⟨(some 98), none, .call 69 [(.tmp 97), (.const (.int .i64 40))]⟩,
 ⟨(some 99), none, .plain (.mov (.tmp 0))⟩,
 ⟨(some 100), none, .call 69 [(.tmp 99), (.const (.int .i64 48))]⟩,
 ⟨(some 101), none, .plain (.mov (.tmp 0))⟩,
 ⟨(some 102), none, .call 69 [(.tmp 101), (.const (.int .i64 72))]⟩,
 ⟨(some 103), none, .plain (.build (.str [(.int .i64 0), (.int .i64 0), (.int .i64 0), (.int .u8 0), (.int .u8 0), (.int .u8 0), (.int .u8 0), (.int .u8 0), (.int .u8 0), (.int .u8 0), (.int .u8 0), (.int .u8 0), (.int .u8 0), (.int .u8 0), (.int .u8 0), (.int .u8 0), (.int .u8 0), (.int .u8 0), (.int .u8 0), (.slice none 0 0), (.int .i64 0), (.int .i64 0)] [(0, 1), (1, 1), (2, 1), (3, 16), (19, 1), (20, 1), (21, 1)]) [(1, (.tmp 98)), (2, (.tmp 100)), (5, (.tmp 102))])⟩,
 ⟨none, none, .plain (.store 22 (.tmp 2) (.tmp 103))⟩])
 (.both (.draw 0 [⟨0, .pure, 0, ⟨(some 104), none, .plain (.faddr 3 (.tmp 2))⟩, [], []⟩,
 ⟨1, .read, 0, ⟨(some 105), none, .plain (.cut (.arr 16 1) (.tmp 104) none none none)⟩, [], []⟩,
 ⟨2, .pure, 0, ⟨(some 106), none, .plain (.mov (.tmp 0))⟩, [], []⟩,
 ⟨3, .read, 0, ⟨(some 107), none, .plain (.cut (.sl 1) (.tmp 106) (some (.const (.int .i64 56))) (some (.const (.int .i64 72))) none)⟩, [], []⟩,
 ⟨4, .chain, 0, ⟨(some 108), none, .plain (.copy 1 (.tmp 105) (.tmp 107))⟩, [], []⟩])
 (.both (.draw 0 [⟨0, .read, 0, ⟨(some 109), none, .plain (.load (some 22) (.tmp 2))⟩, [], []⟩,
 ⟨1, .pure, 0, ⟨(some 110), none, .plain (.mov (.tmp 16))⟩, [], []⟩,
 ⟨2, .pure, 0, ⟨(some 111), none, .plain (.conv (.int .i64) (.tmp 110))⟩, [], []⟩,
 ⟨3, .pure, 0, ⟨(some 112), none, .plain (.mov (.tmp 4))⟩, [], []⟩,
 ⟨4, .pure, 0, ⟨(some 113), none, .plain (.mov (.tmp 0))⟩, [], []⟩,
 ⟨6, .pure, 0, ⟨(some 115), none, .plain (.mov (.tmp 0))⟩, [], []⟩,
 ⟨5, .chain, 0, ⟨(some 114), none, .call 69 [(.tmp 113), (.const (.int .i64 24))]⟩, [0], []⟩,
 ⟨7, .chain, 0, ⟨(some 116), none, .call 69 [(.tmp 115), (.const (.int .i64 32))]⟩, [0], []⟩,
 ⟨8, .chain, 0, ⟨none, none, .plain (.store 22 (.tmp 2) (.tmp 109))⟩, [], []⟩,
 ⟨9, .pure, 0, ⟨(some 3), none, .plain (.mov (.tmp 111))⟩, [], []⟩,
 ⟨10, .pure, 0, ⟨(some 4), none, .plain (.mov (.tmp 112))⟩, [], []⟩,
 ⟨11, .pure, 0, ⟨(some 5), none, .plain (.mov (.tmp 114))⟩, [], []⟩,
 ⟨12, .pure, 0, ⟨(some 6), none, .plain (.mov (.tmp 116))⟩, [], []⟩,
 ⟨13, .pure, 0, ⟨(some 7), none, .plain (.mov (.const (.int .i64 0)))⟩, [], []⟩])
 .ret)))))))))))))⟩
/-- fettle/gpt.rows -/
def a50 : AFunc := ⟨4, [.tmp 8, .tmp 9],
 (.both (.seq [⟨(some 8), none, .plain (.mov (.const (.slice none 0 0)))⟩,
 ⟨(some 9), none, .plain (.mov (.const (.int .i64 0)))⟩])
 (.both (.both (.seq [⟨(some 16), none, .plain (.mov (.tmp 1))⟩,
 ⟨(some 17), none, .plain (.bin .lss (.tmp 16) (.const (.int .i64 0)))⟩,
 ⟨(some 18), none, .plain (.mov (.tmp 17))⟩,
 ⟨(some 19), (some (18, false)), .plain (.mov (.tmp 1))⟩,
 ⟨(some 20), (some (18, false)), .plain (.bin .mul (.tmp 19) (.const (.int .i64 512)))⟩,
 ⟨(some 21), (some (18, false)), .plain (.mov (.tmp 0))⟩,
 ⟨(some 22), (some (18, false)), .invoke (.tmp 21) [(17, 126), (42, 130)] []⟩,
 ⟨(some 23), (some (18, false)), .plain (.mov (.tmp 2))⟩,
 ⟨(some 24), (some (18, false)), .plain (.bin .mul (.tmp 23) (.const (.int .i64 128)))⟩,
 ⟨(some 25), (some (18, false)), .plain (.bin .sub (.tmp 22) (.tmp 24))⟩,
 ⟨(some 26), (some (18, false)), .plain (.bin .gtr (.tmp 20) (.tmp 25))⟩,
 ⟨(some 27), none, .plain (.pick (.tmp 18) (.const (.bool true)) (.tmp 26))⟩])
 (.cond (.tmp 27)
 (.both (.seq [⟨(some 8), none, .plain (.mov (.const (.slice none 0 0)))⟩,
 ⟨(some 9), none, .plain (.mov (.const (.int .i64 4)))⟩])
 .ret)
 .skip))
 (.both (.seq [⟨(some 29), none, .plain (.mov (.tmp 0))⟩,
 ⟨(some 30), none, .plain (.mov (.tmp 1))⟩,
 ⟨(some 31), none, .plain (.bin .mul (.tmp 30) (.const (.int .i64 512)))⟩,
 ⟨(some 32), none, .plain (.mov (.tmp 2))⟩,
 ⟨(some 33), none, .plain (.bin .mul (.tmp 32) (.const (.int .i64 128)))⟩,
 ⟨(some 34), none, .invoke (.tmp 29) [(42, 129)] [(.tmp 31), (.tmp 33)]⟩,
 ⟨(some 28), none, .plain (.mov (.tmp 34))⟩,
 ⟨(some 35), none, .plain (.extract (.tmp 28) 0)⟩,
 ⟨(some 36), none, .plain (.extract (.tmp 28) 1)⟩,
 ⟨(some 10), none, .plain (.mov (.tmp 35))⟩,
 ⟨(some 11), none, .plain (.mov (.tmp 36))⟩])
 (.both (.both (.seq [⟨(some 37), none, .plain (.mov (.tmp 11))⟩,
 ⟨(some 38), none, .plain (.bin .neq (.tmp 37) (.const (.int .i64 0)))⟩])
 (.cond (.tmp 38)
 (.both (.seq [⟨(some 39), none, .plain (.mov (.tmp 11))⟩,
 ⟨(some 8), none, .plain (.mov (.const (.slice none 0 0)))⟩,
 ⟨(some 9), none, .plain (.mov (.tmp 39))⟩])
 .ret)
 .skip))
 (.both (.both (.seq [⟨(some 40), none, .plain (.mov (.tmp 3))⟩,
 ⟨(some 41), none, .plain (.mov (.tmp 10))⟩,
 ⟨(some 42), none, .plain (.buildSlice ⟨1, 24, [(.slice none 0 0)]⟩ 1 [(0, (.tmp 41))])⟩,
 ⟨(some 43), none, .call 70 [(.tmp 42)]⟩,
 ⟨(some 44), none, .plain (.bin .neq (.tmp 40) (.tmp 43))⟩])
 (.cond (.tmp 44)
 (.both (.seq [⟨(some 8), none, .plain (.mov (.const (.slice none 0 0)))⟩,
 ⟨(some 9), none, .plain (.mov (.const (.int .i64 12)))⟩])
 .ret)
 .skip))
 (.both (.seq [⟨(some 12), none, .plain (.mov (.const (.slice none 0 0)))⟩])
 (.both (.both (.seq [⟨(some 45), none, .plain (.mov (.tmp 2))⟩,
 ⟨(some 46), none, .plain (.mov (.const (.int .i64 0)))⟩])
 (.block 0 (.loop (.both (.seq [⟨(some 47), none, .plain (.bin .lss (.tmp 46) (.tmp 45))⟩])
 (.both (.cond (.tmp 47)
 .skip
 (.exit 0))
 (.both (.block 1 (.both (.seq [⟨(some 48), none, .plain (.mov (.tmp 46))⟩,
 ⟨(some 13), none, .plain (.mov (.tmp 48))⟩])
 (.both (.seq [⟨(some 49), none, .plain (.mov (.tmp 10))⟩,
 ⟨(some 50), none, .plain (.mov (.tmp 13))⟩,
 ⟨(some 51), none, .plain (.bin .mul (.tmp 50) (.const (.int .i64 128)))⟩,
 ⟨(some 52), none, .plain (.mov (.tmp 13))⟩,
 ⟨(some 53), none, .plain (.bin .add (.tmp 52) (.const (.int .i64 1)))⟩,
 ⟨(some 54), none, .plain (.bin .mul (.tmp 53) (.const (.int .i64 128)))⟩,
 ⟨(some 55), none, .plain (.cut (.sl 1) (.tmp 49) (some (.tmp 51)) (some (.tmp 54)) none)⟩,
 ⟨(some 14), none, .plain (.mov (.tmp 55))⟩])
 (.both (.seq [⟨(some 56), none, .plain (.mov (.tmp 14))⟩,
 ⟨(some 57), none, .call 69 [(.tmp 56), (.const (.int .i64 32))]⟩,
 ⟨(some 58), none, .plain (.mov (.tmp 14))⟩,
 ⟨(some 59), none, .call 69 [(.tmp 58), (.const (.int .i64 40))]⟩,
 ⟨(some 60), none, .plain (.build (.str [(.int .u8 0), (.int .u8 0), (.int .u8 0), (.int .u8 0), (.int .u8 0), (.int .u8 0), (.int .u8 0), (.int .u8 0), (.int .u8 0), (.int .u8 0), (.int .u8 0), (.int .u8 0), (.int .u8 0), (.int .u8 0), (.int .u8 0), (.int .u8 0), (.int .u8 0), (.int .u8 0), (.int .u8 0), (.int .u8 0), (.int .u8 0), (.int .u8 0), (.int .u8 0), (.int .u8 0), (.int .u8 0), (.int .u8 0), (.int .u8 0), (.int .u8 0), (.int .u8 0), (.int .u8 0), (.int .u8 0), (.int .u8 0), (.int .i64 0), (.int .i64 0), (.int .u8 0), (.int .u8 0), (.int .u8 0), (.int .u8 0), (.int .u8 0), (.int .u8 0), (.int .u8 0), (.int .u8 0), (.int .u8 0), (.int .u8 0), (.int .u8 0), (.int .u8 0), (.int .u8 0), (.int .u8 0), (.int .u8 0), (.int .u8 0), (.int .u8 0), (.int .u8 0), (.int .u8 0), (.int .u8 0), (.int .u8 0), (.int .u8 0), (.int .u8 0), (.int .u8 0), (.int .u8 0), (.int .u8 0), (.int .u8 0), (.int .u8 0), (.int .u8 0), (.int .u8 0), (.int .u8 0), (.int .u8 0), (.int .u8 0), (.int .u8 0), (.int .u8 0), (.int .u8 0), (.int .u8 0), (.int .u8 0), (.int .u8 0), (.int .u8 0), (.int .u8 0), (.int .u8 0), (.int .u8 0), (.int .u8 0), (.int .u8 0), (.int .u8 0), (.int .u8 0), (.int .u8 0), (.int .u8 0), (.int .u8 0), (.int .u8 0), (.int .u8 0), (.int .u8 0), (.int .u8 0), (.int .u8 0), (.int .u8 0), (.int .u8 0), (.int .u8 0), (.int .u8 0), (.int .u8 0), (.int .u8 0), (.int .u8 0), (.int .u8 0), (.int .u8 0), (.int .u8 0), (.int .u8 0), (.int .u8 0), (.int .u8 0), (.int .u8 0), (.int .u8 0), (.int .u8 0), (.int .u8 0), (.int .u8 0), (.int .u8 0), (.int .u8 0), (.int .u8 0), (.int .u8 0), (.int .u8 0), (.int .u8 0), (.int .u8 0)] [(0, 32), (32, 1), (33, 1), (34, 80)]) [(1, (.tmp 57)), (2, (.tmp 59))])⟩,
 ⟨(some 15), none, .plain (.alloc [(.int .u8 0), (.int .u8 0), (.int .u8 0), (.int .u8 0), (.int .u8 0), (.int .u8 0), (.int .u8 0), (.int .u8 0), (.int .u8 0), (.int .u8 0), (.int .u8 0), (.int .u8 0), (.int .u8 0), (.int .u8 0), (.int .u8 0), (.int .u8 0), (.int .u8 0), (.int .u8 0), (.int .u8 0), (.int .u8 0), (.int .u8 0), (.int .u8 0), (.int .u8 0), (.int .u8 0), (.int .u8 0), (.int .u8 0), (.int .u8 0), (.int .u8 0), (.int .u8 0), (.int .u8 0), (.int .u8 0), (.int .u8 0), (.int .i64 0), (.int .i64 0), (.int .u8 0), (.int .u8 0), (.int .u8 0), (.int .u8 0), (.int .u8 0), (.int .u8 0), (.int .u8 0), (.int .u8 0), (.int .u8 0), (.int .u8 0), (.int .u8 0), (.int .u8 0), (.int .u8 0), (.int .u8 0), (.int .u8 0), (.int .u8 0), (.int .u8 0), (.int .u8 0), (.int .u8 0), (.int .u8 0), (.int .u8 0), (.int .u8 0), (.int .u8 0), (.int .u8 0), (.int .u8 0), (.int .u8 0), (.int .u8 0), (.int .u8 0), (.int .u8 0), (.int .u8 0), (.int .u8 0), (.int .u8 0), (.int .u8 0), (.int .u8 0), (.int .u8 0), (.int .u8 0), (.int .u8 0), (.int .u8 0), (.int .u8 0), (.int .u8 0), (.int .u8 0), (.int .u8 0), (.int .u8 0), (.int .u8 0), (.int .u8 0), (.int .u8 0), (.int .u8 0), (.int .u8 0), (.int .u8 0), (.int .u8 0), (.int .u8 0), (.int .u8 0), (.int .u8 0), (.int .u8 0), (.int .u8 0), (.int .u8 0), (.int .u8 0), (.int .u8 0), (.int .u8 0), (.int .u8 0), (.int .u8 0), (.int .u8 0), (.int .u8 0), (.int .u8 0), (.int .u8 0), (.int .u8 0), (.int .u8 0), (.int .u8 0), (.int .u8 0), (.int .u8 0), (.int .u8 0), (.int .u8 0), (.int .u8 0), (.int .u8 0), (.int .u8 0), (.int .u8 0), (.int .u8 0), (.int .u8 0), (.int .u8 0), (.int .u8 0)])⟩,
 ⟨none, none, .plain (.store 114 (.tmp 15) (.tmp 60))⟩])
 (.both (.seq [⟨(some 61), none, .plain (.faddr 0 (.tmp 15))⟩,
 ⟨(some 62), none, .plain (.cut (.arr 32 1) (.tmp 61) none none none)⟩,
 ⟨(some 63), none, .plain (.mov (.tmp 14))⟩,
 ⟨(some 64), none, .plain (.copy 1 (.tmp 62) (.tmp 63))⟩])
 (.both (.draw 0 [⟨0, .pure, 0, ⟨(some 65), none, .plain (.faddr 34 (.tmp 15))⟩, [], []⟩,
 ⟨1, .read, 0, ⟨(some 66), none, .plain (.cut (.arr 80 1) (.tmp 65) none none none)⟩, [], []⟩,
 ⟨2, .pure, 0, ⟨(some 67), none, .plain (.mov (.tmp 14))⟩, [], []⟩,
 ⟨3, .read, 0, ⟨(some 68), none, .plain (.cut (.sl 1) (.tmp 67) (some (.const (.int .i64 48))) none none)⟩, [], []⟩,
 ⟨4, .chain, 0, ⟨(some 69), none, .plain (.copy 1 (.tmp 66) (.tmp 68))⟩, [], []⟩])
 (.seq [⟨(some 70), none, .plain (.mov (.tmp 12))⟩,
 ⟨(some 71), none, .plain (.load (some 114) (.tmp 15))⟩,
 ⟨(some 72), none, .plain (.buildSlice ⟨114, 128, [(.int .u8 0), (.int .u8 0), (.int .u8 0), (.int .u8 0), (.int .u8 0), (.int .u8 0), (.int .u8 0), (.int .u8 0), (.int .u8 0), (.int .u8 0), (.int .u8 0), (.int .u8 0), (.int .u8 0), (.int .u8 0), (.int .u8 0), (.int .u8 0), (.int .u8 0), (.int .u8 0), (.int .u8 0), (.int .u8 0), (.int .u8 0), (.int .u8 0), (.int .u8 0), (.int .u8 0), (.int .u8 0), (.int .u8 0), (.int .u8 0), (.int .u8 0), (.int .u8 0), (.int .u8 0), (.int .u8 0), (.int .u8 0), (.int .i64 0), (.int .i64 0), (.int .u8 0), (.int .u8 0), (.int .u8 0), (.int .u8 0), (.int .u8 0), (.int .u8 0), (.int .u8 0), (.int .u8 0), (.int .u8 0), (.int .u8 0), (.int .u8 0), (.int .u8 0), (.int .u8 0), (.int .u8 0), (.int .u8 0), (.int .u8 0), (.int .u8 0), (.int .u8 0), (.int .u8 0), (.int .u8 0), (.int .u8 0), (.int .u8 0), (.int .u8 0), (.int .u8 0), (.int .u8 0), (.int .u8 0), (.int .u8 0), (.int .u8 0), (.int .u8 0), (.int .u8 0), (.int .u8 0), (.int .u8 0), (.int .u8 0), (.int .u8 0), (.int .u8 0), (.int .u8 0), (.int .u8 0), (.int .u8 0), (.int .u8 0), (.int .u8 0), (.int .u8 0), (.int .u8 0), (.int .u8 0), (.int .u8 0), (.int .u8 0), (.int .u8 0), (.int .u8 0), (.int .u8 0), (.int .u8 0), (.int .u8 0), (.int .u8 0), (.int .u8 0), (.int .u8 0), (.int .u8 0), (.int .u8 0), (.int .u8 0), (.int .u8 0), (.int .u8 0), (.int .u8 0), (.int .u8 0), (.int .u8 0), (.int .u8 0), (.int .u8 0), (.int .u8 0), (.int .u8 0), (.int .u8 0), (.int .u8 0), (.int .u8 0), (.int .u8 0), (.int .u8 0), (.int .u8 0), (.int .u8 0), (.int .u8 0), (.int .u8 0), (.int .u8 0), (.int .u8 0), (.int .u8 0), (.int .u8 0), (.int .u8 0), (.int .u8 0)]⟩ 1 [(0, (.tmp 71))])⟩,
 ⟨(some 73), none, .plain (.append ⟨114, 128, [(.int .u8 0), (.int .u8 0), (.int .u8 0), (.int .u8 0), (.int .u8 0), (.int .u8 0), (.int .u8 0), (.int .u8 0), (.int .u8 0), (.int .u8 0), (.int .u8 0), (.int .u8 0), (.int .u8 0), (.int .u8 0), (.int .u8 0), (.int .u8 0), (.int .u8 0), (.int .u8 0), (.int .u8 0), (.int .u8 0), (.int .u8 0), (.int .u8 0), (.int .u8 0), (.int .u8 0), (.int .u8 0), (.int .u8 0), (.int .u8 0), (.int .u8 0), (.int .u8 0), (.int .u8 0), (.int .u8 0), (.int .u8 0), (.int .i64 0), (.int .i64 0), (.int .u8 0), (.int .u8 0), (.int .u8 0), (.int .u8 0), (.int .u8 0), (.int .u8 0), (.int .u8 0), (.int .u8 0), (.int .u8 0), (.int .u8 0), (.int .u8 0), (.int .u8 0), (.int .u8 0), (.int .u8 0), (.int .u8 0), (.int .u8 0), (.int .u8 0), (.int .u8 0), (.int .u8 0), (.int .u8 0), (.int .u8 0), (.int .u8 0), (.int .u8 0), (.int .u8 0), (.int .u8 0), (.int .u8 0), (.int .u8 0), (.int .u8 0), (.int .u8 0), (.int .u8 0), (.int .u8 0), (.int .u8 0), (.int .u8 0), (.int .u8 0), (.int .u8 0), (.int .u8 0), (.int .u8 0), (.int .u8 0), (.int .u8 0), (.int .u8 0), (.int .u8 0), (.int .u8 0), (.int .u8 0), (.int .u8 0), (.int .u8 0), (.int .u8 0), (.int .u8 0), (.int .u8 0), (.int .u8 0), (.int .u8 0), (.int .u8 0), (.int .u8 0), (.int .u8 0), (.int .u8 0), (.int .u8 0), (.int .u8 0), (.int .u8 0), (.int .u8 0), (.int .u8 0), (.int .u8 0), (.int .u8 0), (.int .u8 0), (.int .u8 0), (.int .u8 0), (.int .u8 0), (.int .u8 0), (.int .u8 0), (.int .u8 0), (.int .u8 0), (.int .u8 0), (.int .u8 0), (.int .u8 0), (.int .u8 0), (.int .u8 0), (.int .u8 0), (.int .u8 0), (.int .u8 0), (.int .u8 0), (.int .u8 0), (.int .u8 0)]⟩ false (.tmp 70) (.tmp 72))⟩,
 ⟨(some 12), none, .plain (.mov (.tmp 73))⟩])))))))
 (.seq [⟨(some 74), none, .plain (.bin .add (.tmp 46) (.const (.int .i64 1)))⟩,
 ⟨(some 46), none, .plain (.mov (.tmp 74))⟩])))))))
 (.both (.seq [⟨(some 75), none, .plain (.mov (.tmp 12))⟩,
 ⟨(some 8), none, .plain (.mov (.tmp 75))⟩,
 ⟨(some 9), none, .plain (.mov (.const (.int .i64 0)))⟩])
 .ret))))))))⟩
/-- fettle/fettleref14.header -/
def a51 : AFunc := ⟨1, [.cell 2 (some 7), .tmp 3, .tmp 4],
 (.both (.seq [⟨(some 2), none, .plain (.alloc [(.int .i64 0), (.int .i64 0), (.int .i64 0), (.slice none 0 0), (.slice none 0 0), (.int .i64 0), (.int .i64 0)])⟩,
 ⟨(some 3), none, .plain (.mov (.const (.slice none 0 0)))⟩,
 ⟨(some 4), none, .plain (.mov (.const (.int .i64 0)))⟩])
 (.both (.both (.seq [⟨(some 8), none, .plain (.mov (.tmp 0))⟩,
 ⟨(some 9), none, .plain (.cut (.sl 1) (.tmp 8) none (some (.const (.int .i64 8))) none)⟩,
 ⟨(some 10), none, .plain (.conv .b2s (.tmp 9))⟩,
 ⟨(some 11), none, .plain (.bin .neq (.tmp 10) (.const (.string ⟨#[69, 70, 73, 32, 80, 65, 82, 84]⟩)))⟩])
 (.cond (.tmp 11)
 (.both (.seq [⟨(some 12), none, .plain (.build (.str [(.int .i64 0), (.int .i64 0), (.int .i64 0), (.slice none 0 0), (.slice none 0 0), (.int .i64 0), (.int .i64 0)] [(0, 1), (1, 1), (2, 1), (3, 1), (4, 1), (5, 1), (6, 1)]) [])⟩,
 ⟨none, none, .plain (.store 7 (.tmp 2) (.tmp 12))⟩,
 ⟨(some 3), none, .plain (.mov (.const (.slice none 0 0)))⟩,
 ⟨(some 4), none, .plain (.mov (.const (.int .i64 10)))⟩])
 .ret)
 .skip))
 (.both (.seq [⟨(some 13), none, .plain (.mov (.tmp 0))⟩,
 ⟨(some 14), none, .call 39 [(.tmp 13), (.const (.int .i64 80)), (.const (.int .i64 4))]⟩,
 ⟨(some 5), none, .plain (.mov (.tmp 14))⟩])
 (.both (.both (.seq [⟨(some 15), none, .plain (.mov (.tmp 0))⟩,
 ⟨(some 16), none, .call 39 [(.tmp 15), (.const (.int .i64 8)), (.const (.int .i64 4))]⟩,
 ⟨(some 17), none, .plain (.bin .neq (.tmp 16) (.const (.int .i64 65536)))⟩,
 ⟨(some 18), none, .plain (.mov (.tmp 17))⟩,
 ⟨(some 19), (some (18, false)), .plain (.mov (.tmp 0))⟩,
 ⟨(some 20), (some (18, false)), .call 39 [(.tmp 19), (.const (.int .i64 12)), (.const (.int .i64 4))]⟩,
 ⟨(some 21), (some (18, false)), .plain (.bin .neq (.tmp 20) (.const (.int .i64 92)))⟩,
 ⟨(some 22), none, .plain (.pick (.tmp 18) (.const (.bool true)) (.tmp 21))⟩,
 ⟨(some 23), none, .plain (.mov (.tmp 22))⟩,
 ⟨(some 24), (some (23, false)), .plain (.mov (.tmp 0))⟩,
 ⟨(some 25), (some (23, false)), .call 39 [(.tmp 24), (.const (.int .i64 20)), (.const (.int .i64 4))]⟩,
 ⟨(some 26), (some (23, false)), .plain (.bin .neq (.tmp 25) (.const (.int .i64 0)))⟩,
 ⟨(some 27), none, .plain (.pick (.tmp 23) (.const (.bool true)) (.tmp 26))⟩,
 ⟨(some 28), none, .plain (.mov (.tmp 27))⟩,
 ⟨(some 29), (some (28, false)), .plain (.mov (.tmp 0))⟩,
 ⟨(some 30), (some (28, false)), .call 39 [(.tmp 29), (.const (.int .i64 84)), (.const (.int .i64 4))]⟩,
 ⟨(some 31), (some (28, false)), .plain (.bin .neq (.tmp 30) (.const (.int .i64 128)))⟩,
 ⟨(some 32), none, .plain (.pick (.tmp 28) (.const (.bool true)) (.tmp 31))⟩,
 ⟨(some 33), none, .plain (.mov (.tmp 32))⟩,
 ⟨(some 34), (some (33, false)), .plain (.mov (.tmp 5))⟩,
 ⟨(some 35), (some (33, false)), .plain (.bin .lss (.tmp 34) (.const (.int .i64 1)))⟩,
 ⟨(some 36), none, .plain (.pick (.tmp 33) (.const (.bool true)) (.tmp 35))⟩,
 ⟨(some 37), none, .plain (.mov (.tmp 36))⟩,
 ⟨(some 38), (some (37, false)), .plain (.mov (.tmp 5))⟩,
 ⟨(some 39), (some (37, false)), .plain (.bin .gtr (.tmp 38) (.const (.int .i64 128)))⟩,
 ⟨(some 40), none, .plain (.pick (.tmp 37) (.const (.bool true)) (.tmp 39))⟩,
 ⟨(some 41), none, .plain (.mov (.tmp 40))⟩,
 ⟨(some 42), (some (41, false)), .plain (.mov (.tmp 0))⟩,
 ⟨(some 43), (some (41, false)), .plain (.cut (.sl 1) (.tmp 42) (some (.const (.int .i64 92))) none none)⟩,
 ⟨(some 44), (some (41, false)), .call 45 [(.tmp 43)]⟩,
 ⟨(some 45), (some (41, false)), .plain (.un .not (.tmp 44))⟩,
 ⟨(some 46), none, .plain (.pick (.tmp 41) (.const (.bool true)) (.tmp 45))⟩])
 (.cond (.tmp 46)
 (.both (.seq [⟨(some 47), none, .plain (.build (.str [(.int .i64 0), (.int .i64 0), (.int .i64 0), (.slice none 0 0), (.slice none 0 0), (.int .i64 0), (.int .i64 0)] [(0, 1), (1, 1), (2, 1), (3, 1), (4, 1), (5, 1), (6, 1)]) [])⟩,
 ⟨none, none, .plain (.store 7 (.tmp 2) (.tmp 47))⟩,
 ⟨(some 3), none, .plain (.mov (.const (.slice none 0 0)))⟩,
 ⟨(some 4), none, .plain (.mov (.const (.int .i64 11)))⟩])
 .ret)
 .skip))
 (.both (.draw 0 [⟨0, .pure, 0, ⟨(some 48), none, .plain (.mov (.tmp 0))⟩, [], []⟩,
 ⟨1, .read, 0, ⟨(some 49), none, .plain (.cut (.sl 1) (.tmp 48) none (some (.const (.int .i64 92))) none)⟩, [], []⟩,
 ⟨2, .chain, 0, ⟨(some 50), none, .call 25 [(.const (.int .i64 4))]⟩, [1], []⟩,
 ⟨3, .chain, 0, ⟨(some 51), none, .call 27 [(.tmp 49), (.const (.int .i64 16)), (.tmp 50)]⟩, [], []⟩,
 ⟨4, .pure, 0, ⟨(some 6), none, .plain (.mov (.tmp 51))⟩, [], []⟩])
 (.both (.both (.seq [⟨(some 52), none, .plain (.mov (.tmp 0))⟩,
 ⟨(some 53), none, .call 39 [(.tmp 52), (.const (.int .i64 16)), (.const (.int .i64 4))]⟩,
 ⟨(some 54), none, .plain (.mov (.tmp 6))⟩,
 ⟨(some 55), none, .call 71 [(.tmp 54)]⟩,
 ⟨(some 56), none, .plain (.conv (.int .i64) (.tmp 55))⟩,
 ⟨(some 57), none, .plain (.bin .neq (.tmp 53) (.tmp 56))⟩])
 (.cond (.tmp 57)
 (.both (.seq [⟨(some 58), none, .plain (.build (.str [(.int .i64 0), (.int .i64 0), (.int .i64 0), (.slice none 0 0), (.slice none 0 0), (.int .i64 0), (.int .i64 0)] [(0, 1), (1, 1), (2, 1), (3, 1), (4, 1), (5, 1), (6, 1)]) [])⟩,
 ⟨none, none, .plain (.store 7 (.tmp 2) (.tmp 58))⟩,
 ⟨(some 3), none, .plain (.mov (.const (.slice none 0 0)))⟩,
 ⟨(some 4), none, .plain (.mov (.const (.int .i64 12)))⟩])
 .ret)
 .skip))
 (.both (.seq [⟨(some 59), none, .plain (.mov (.tmp 0))⟩,
 ⟨(some 60), none, .call 72 [(.tmp 59), (.const (.int .i64 40))]⟩,
 ⟨(some 61), none, .plain (.mov (.tmp 0))⟩,
 ⟨(some 62), none, .call 72 [(.tmp 61), (.const (.int .i64 48))]⟩,
 ⟨(some 63), none, .plain (.mov (.tmp 0))⟩,
 ⟨(some 64), none, .call 72 [(.tmp 63), (.const (.int .i64 72))]⟩,
 ⟨(some 65), none, .plain (.mov (.tmp 0))⟩,
 ⟨(some 66), none, .call 47 [(.tmp 65), (.const (.int .i64 56)), (.const (.int .i64 16))]⟩,
 ⟨(some 67), none, .plain (.build (.str [(.int .i64 0), (.int .i64 0), (.int .i64 0), (.slice none 0 0), (.slice none 0 0), (.int .i64 0), (.int .i64 0)] [(0, 1), (1, 1), (2, 1), (3, 1), (4, 1), (5, 1), (6, 1)]) [(1, (.tmp 60)), (2, (.tmp 62)), (5, (.tmp 64)), (3, (.tmp 66))])⟩,
 ⟨(some 7), none, .plain (.alloc [(.int .i64 0), (.int .i64 0), (.int .i64 0), (.slice none 0 0), (.slice none 0 0), (.int .i64 0), (.int .i64 0)])⟩,
 ⟨none, none, .plain (.store 7 (.tmp 7) (.tmp 67))⟩])
 (.both (.draw 1 [⟨0, .read, 0, ⟨(some 68), none, .plain (.load (some 7) (.tmp 7))⟩, [], []⟩,
 ⟨1, .pure, 0, ⟨(some 69), none, .plain (.mov (.tmp 5))⟩, [], []⟩,
 ⟨2, .pure, 0, ⟨(some 70), none, .plain (.mov (.tmp 0))⟩, [], []⟩,
 ⟨4, .pure, 0, ⟨(some 72), none, .plain (.mov (.tmp 0))⟩, [], []⟩,
 ⟨6, .pure, 0, ⟨(some 74), none, .plain (.mov (.tmp 0))⟩, [], []⟩,
 ⟨3, .chain, 0, ⟨(some 71), none, .call 39 [(.tmp 70), (.const (.int .i64 88)), (.const (.int .i64 4))]⟩, [0], [0]⟩,
 ⟨5, .chain, 0, ⟨(some 73), none, .call 72 [(.tmp 72), (.const (.int .i64 24))]⟩, [0], [0]⟩,
 ⟨7, .chain, 0, ⟨(some 75), none, .call 72 [(.tmp 74), (.const (.int .i64 32))]⟩, [0], [0]⟩,
 ⟨9, .chain, 0, ⟨none, none, .plain (.store 7 (.tmp 2) (.tmp 68))⟩, [], [0]⟩,
 ⟨8, .fresh, 0, ⟨(some 76), none, .plain (.buildSlice ⟨1, 8, [(.int .i64 0)]⟩ 4 [(0, (.tmp 69)), (1, (.tmp 71)), (2, (.tmp 73)), (3, (.tmp 75))])⟩, [], []⟩,
 ⟨10, .pure, 0, ⟨(some 3), none, .plain (.mov (.tmp 76))⟩, [], []⟩,
 ⟨11, .pure, 0, ⟨(some 4), none, .plain (.mov (.const (.int .i64 0)))⟩, [], []⟩])
 .ret))))))))⟩
/-- fettle/fettleref14.list -/
def a52 : AFunc := ⟨4, [.tmp 8, .tmp 9],
 (.both (.seq [⟨(some 8), none, .plain (.mov (.const (.slice none 0 0)))⟩,
 ⟨(some 9), none, .plain (.mov (.const (.int .i64 0)))⟩])
 (.both (.both (.seq [⟨(some 14), none, .plain (.mov (.tmp 1))⟩,
 ⟨(some 15), none, .plain (.bin .mul (.tmp 14) (.const (.int .i64 512)))⟩,
 ⟨(some 16), none, .plain (.mov (.tmp 0))⟩,
 ⟨(some 17), none, .plain (.len .sl (.tmp 16))⟩,
 ⟨(some 18), none, .plain (.mov (.tmp 2))⟩,
 ⟨(some 19), none, .plain (.bin .mul (.tmp 18) (.const (.int .i64 128)))⟩,
 ⟨(some 20), none, .plain (.bin .sub (.tmp 17) (.tmp 19))⟩,
 ⟨(some 21), none, .plain (.bin .gtr (.tmp 15) (.tmp 20))⟩])
 (.cond (.tmp 21)
 (.both (.seq [⟨(some 8), none, .plain (.mov (.const (.slice none 0 0)))⟩,
 ⟨(some 9), none, .plain (.mov (.const (.int .i64 4)))⟩])
 .ret)
 .skip))
 (.both (.seq [⟨(some 22), none, .plain (.mov (.tmp 0))⟩,
 ⟨(some 23), none, .plain (.mov (.tmp 1))⟩,
 ⟨(some 24), none, .plain (.bin .mul (.tmp 23) (.const (.int .i64 512)))⟩,
 ⟨(some 25), none, .plain (.mov (.tmp 1))⟩,
 ⟨(some 26), none, .plain (.bin .mul (.tmp 25) (.const (.int .i64 512)))⟩,
 ⟨(some 27), none, .plain (.mov (.tmp 2))⟩,
 ⟨(some 28), none, .plain (.bin .mul (.tmp 27) (.const (.int .i64 128)))⟩,
 ⟨(some 29), none, .plain (.bin .add (.tmp 26) (.tmp 28))⟩,
 ⟨(some 30), none, .plain (.cut (.sl 1) (.tmp 22) (some (.tmp 24)) (some (.tmp 29)) none)⟩,
 ⟨(some 10), none, .plain (.mov (.tmp 30))⟩])
 (.both (.both (.seq [⟨(some 31), none, .plain (.mov (.tmp 10))⟩,
 ⟨(some 32), none, .call 71 [(.tmp 31)]⟩,
 ⟨(some 33), none, .plain (.conv (.int .i64) (.tmp 32))⟩,
 ⟨(some 34), none, .plain (.mov (.tmp 3))⟩,
 ⟨(some 35), none, .plain (.bin .neq (.tmp 33) (.tmp 34))⟩])
 (.cond (.tmp 35)
 (.both (.seq [⟨(some 8), none, .plain (.mov (.const (.slice none 0 0)))⟩,
 ⟨(some 9), none, .plain (.mov (.const (.int .i64 12)))⟩])
 .ret)
 .skip))
 (.both (.seq [⟨(some 11), none, .plain (.mov (.const (.slice none 0 0)))⟩])
 (.both (.both (.seq [⟨(some 12), none, .plain (.mov (.const (.int .i64 0)))⟩])
 (.block 0 (.loop (.both (.both (.seq [⟨(some 36), none, .plain (.mov (.tmp 12))⟩,
 ⟨(some 37), none, .plain (.mov (.tmp 2))⟩,
 ⟨(some 38), none, .plain (.bin .lss (.tmp 36) (.tmp 37))⟩])
 (.cond (.tmp 38)
 .skip
 (.exit 0)))
 (.both (.block 1 (.both (.seq [⟨(some 41), none, .plain (.mov (.tmp 10))⟩,
 ⟨(some 42), none, .plain (.mov (.tmp 12))⟩,
 ⟨(some 43), none, .plain (.bin .mul (.const (.int .i64 128)) (.tmp 42))⟩,
 ⟨(some 44), none, .plain (.mov (.tmp 12))⟩,
 ⟨(some 45), none, .plain (.bin .mul (.const (.int .i64 128)) (.tmp 44))⟩,
 ⟨(some 46), none, .plain (.bin .add (.tmp 45) (.const (.int .i64 128)))⟩,
 ⟨(some 47), none, .plain (.cut (.sl 1) (.tmp 41) (some (.tmp 43)) (some (.tmp 46)) none)⟩,
 ⟨(some 13), none, .plain (.mov (.tmp 47))⟩])
 (.seq [⟨(some 48), none, .plain (.mov (.tmp 11))⟩,
 ⟨(some 49), none, .plain (.mov (.tmp 13))⟩,
 ⟨(some 50), none, .call 47 [(.tmp 49), (.const (.int .i64 0)), (.const (.int .i64 32))]⟩,
 ⟨(some 51), none, .plain (.mov (.tmp 13))⟩,
 ⟨(some 52), none, .call 72 [(.tmp 51), (.const (.int .i64 32))]⟩,
 ⟨(some 53), none, .plain (.mov (.tmp 13))⟩,
 ⟨(some 54), none, .call 72 [(.tmp 53), (.const (.int .i64 40))]⟩,
 ⟨(some 55), none, .plain (.mov (.tmp 13))⟩,
 ⟨(some 56), none, .call 47 [(.tmp 55), (.const (.int .i64 48)), (.const (.int .i64 80))]⟩,
 ⟨(some 57), none, .plain (.build (.str [(.slice none 0 0), (.int .i64 0), (.int .i64 0), (.slice none 0 0)] [(0, 1), (1, 1), (2, 1), (3, 1)]) [(0, (.tmp 50)), (1, (.tmp 52)), (2, (.tmp 54)), (3, (.tmp 56))])⟩,
 ⟨(some 58), none, .plain (.buildSlice ⟨4, 64, [(.slice none 0 0), (.int .i64 0), (.int .i64 0), (.slice none 0 0)]⟩ 1 [(0, (.tmp 57))])⟩,
 ⟨(some 59), none, .plain (.append ⟨4, 64, [(.slice none 0 0), (.int .i64 0), (.int .i64 0), (.slice none 0 0)]⟩ false (.tmp 48) (.tmp 58))⟩,
 ⟨(some 11), none, .plain (.mov (.tmp 59))⟩])))
 (.seq [⟨(some 39), none, .plain (.mov (.tmp 12))⟩,
 ⟨(some 40), none, .plain (.bin .add (.tmp 39) (.const (.int .i64 1)))⟩,
 ⟨(some 12), none, .plain (.mov (.tmp 40))⟩]))))))
 (.both (.seq [⟨(some 60), none, .plain (.mov (.tmp 11))⟩,
 ⟨(some 8), none, .plain (.mov (.tmp 60))⟩,
 ⟨(some 9), none, .plain (.mov (.const (.int .i64 0)))⟩])
 .ret)))))))⟩
/-- fettle/fettleref01.Pad -/
def a56 : AFunc := ⟨2, [.tmp 4],
 (.both (.seq [⟨(some 4), none, .plain (.mov (.const (.slice none 0 0)))⟩])
 (.both (.seq [⟨(some 5), none, .plain (.mov (.const (.slice none 0 0)))⟩])
 (.both (.seq [⟨(some 6), none, .plain (.mov (.tmp 5))⟩,
 ⟨(some 7), none, .plain (.mov (.tmp 0))⟩,
 ⟨(some 8), none, .plain (.append ⟨1, 1, [(.int .u8 0)]⟩ false (.tmp 6) (.tmp 7))⟩,
 ⟨(some 5), none, .plain (.mov (.tmp 8))⟩])
 (.both (.both (.seq [⟨(some 9), none, .plain (.mov (.tmp 1))⟩,
 ⟨(some 10), none, .plain (.bin .lss (.tmp 9) (.const (.int .i64 2)))⟩,
 ⟨(some 11), none, .plain (.mov (.tmp 10))⟩,
 ⟨(some 12), (some (11, false)), .plain (.mov (.tmp 0))⟩,
 ⟨(some 13), (some (11, false)), .plain (.len .sl (.tmp 12))⟩,
 ⟨(some 14), (some (11, false)), .plain (.mov (.tmp 1))⟩,
 ⟨(some 15), (some (11, false)), .plain (.bin .rem (.tmp 13) (.tmp 14))⟩,
 ⟨(some 16), (some (11, false)), .plain (.bin .eql (.tmp 15) (.const (.int .i64 0)))⟩,
 ⟨(some 17), none, .plain (.pick (.tmp 11) (.const (.bool true)) (.tmp 16))⟩])
 (.cond (.tmp 17)
 (.both (.seq [⟨(some 18), none, .plain (.mov (.tmp 5))⟩,
 ⟨(some 4), none, .plain (.mov (.tmp 18))⟩])
 .ret)
 .skip))
 (.both (.seq [⟨(some 19), none, .plain (.mov (.tmp 5))⟩,
 ⟨(some 20), none, .plain (.mov (.tmp 1))⟩,
 ⟨(some 21), none, .plain (.mov (.tmp 0))⟩,
 ⟨(some 22), none, .plain (.len .sl (.tmp 21))⟩,
 ⟨(some 23), none, .plain (.mov (.tmp 1))⟩,
 ⟨(some 24), none, .plain (.bin .rem (.tmp 22) (.tmp 23))⟩,
 ⟨(some 25), none, .plain (.bin .sub (.tmp 20) (.tmp 24))⟩,
 ⟨(some 26), none, .call 25 [(.tmp 25)]⟩,
 ⟨(some 27), none, .plain (.append ⟨1, 1, [(.int .u8 0)]⟩ false (.tmp 19) (.tmp 26))⟩,
 ⟨(some 4), none, .plain (.mov (.tmp 27))⟩])
 .ret)))))⟩
/-- fettle/fettleref14.Bytes -/
def a57 : AFunc := ⟨1, [.tmp 2],
 (.both (.seq [⟨(some 2), none, .plain (.mov (.const (.slice none 0 0)))⟩])
 (.both (.seq [⟨(some 3), none, .plain (.mov (.const (.slice none 0 0)))⟩])
 (.both (.both (.seq [⟨(some 4), none, .plain (.mov (.const (.int .i64 0)))⟩])
 (.block 0 (.loop (.both (.both (.seq [⟨(some 5), none, .plain (.mov (.tmp 4))⟩,
 ⟨(some 6), none, .plain (.mov (.tmp 0))⟩,
 ⟨(some 7), none, .plain (.len .sl (.tmp 6))⟩,
 ⟨(some 8), none, .plain (.bin .lss (.tmp 5) (.tmp 7))⟩])
 (.cond (.tmp 8)
 .skip
 (.exit 0)))
 (.both (.block 1 (.both (.seq [⟨(some 11), none, .plain (.mov (.tmp 3))⟩,
 ⟨(some 12), none, .plain (.mov (.tmp 0))⟩,
 ⟨(some 13), none, .plain (.mov (.tmp 4))⟩,
 ⟨(some 14), none, .plain (.iaddr none 4 (.tmp 12) (.tmp 13))⟩,
 ⟨(some 15), none, .plain (.faddr 0 (.tmp 14))⟩,
 ⟨(some 16), none, .plain (.load none (.tmp 15))⟩,
 ⟨(some 17), none, .plain (.append ⟨1, 1, [(.int .u8 0)]⟩ false (.tmp 11) (.tmp 16))⟩,
 ⟨(some 3), none, .plain (.mov (.tmp 17))⟩])
 (.both (.seq [⟨(some 18), none, .plain (.mov (.tmp 3))⟩,
 ⟨(some 19), none, .plain (.mov (.tmp 0))⟩,
 ⟨(some 20), none, .plain (.mov (.tmp 4))⟩,
 ⟨(some 21), none, .plain (.iaddr none 4 (.tmp 19) (.tmp 20))⟩,
 ⟨(some 22), none, .plain (.faddr 1 (.tmp 21))⟩,
 ⟨(some 23), none, .plain (.load none (.tmp 22))⟩,
 ⟨(some 24), none, .plain (.conv (.int .u64) (.tmp 23))⟩,
 ⟨(some 25), none, .call 32 [(.tmp 24), (.const (.int .i64 8))]⟩,
 ⟨(some 26), none, .plain (.append ⟨1, 1, [(.int .u8 0)]⟩ false (.tmp 18) (.tmp 25))⟩,
 ⟨(some 3), none, .plain (.mov (.tmp 26))⟩])
 (.both (.seq [⟨(some 27), none, .plain (.mov (.tmp 3))⟩,
 ⟨(some 28), none, .plain (.mov (.tmp 0))⟩,
 ⟨(some 29), none, .plain (.mov (.tmp 4))⟩,
 ⟨(some 30), none, .plain (.iaddr none 4 (.tmp 28) (.tmp 29))⟩,
 ⟨(some 31), none, .plain (.faddr 2 (.tmp 30))⟩,
 ⟨(some 32), none, .plain (.load none (.tmp 31))⟩,
 ⟨(some 33), none, .plain (.conv (.int .u64) (.tmp 32))⟩,
 ⟨(some 34), none, .call 32 [(.tmp 33), (.const (.int .i64 8))]⟩,
 ⟨(some 35), none, .plain (.append ⟨1, 1, [(.int .u8 0)]⟩ false (.tmp 27) (.tmp 34))⟩,
 ⟨(some 3), none, .plain (.mov (.tmp 35))⟩])
 (.seq [⟨(some 36), none, .plain (.mov (.tmp 3))⟩,
 ⟨(some 37), none, .plain (.mov (.tmp 0))⟩,
 ⟨(some 38), none, .plain (.mov (.tmp 4))⟩,
 ⟨(some 39), none, .plain (.iaddr none 4 (.tmp 37) (.tmp 38))⟩,
 ⟨(some 40), none, .plain (.faddr 3 (.tmp 39))⟩,
 ⟨(some 41), none, .plain (.load none (.tmp 40))⟩,
 ⟨(some 42), none, .plain (.append ⟨1, 1, [(.int .u8 0)]⟩ false (.tmp 36) (.tmp 41))⟩,
 ⟨(some 3), none, .plain (.mov (.tmp 42))⟩])))))
 (.seq [⟨(some 9), none, .plain (.mov (.tmp 4))⟩,
 ⟨(some 10), none, .plain (.bin .add (.tmp 9) (.const (.int .i64 1)))⟩,
 ⟨(some 4), none, .plain (.mov (.tmp 10))⟩]))))))
 (.both (.seq [⟨(some 43), none, .plain (.mov (.tmp 3))⟩,
 ⟨(some 2), none, .plain (.mov (.tmp 43))⟩])
 .ret))))⟩
/-- fettle/fettleref14.Head -/
def a58 : AFunc := ⟨2, [.tmp 4],
 (.both (.seq [⟨(some 2), none, .plain (.box (.tmp 0))⟩,
 ⟨(some 4), none, .plain (.mov (.const (.slice none 0 0)))⟩])
 (.both (.seq [⟨(some 5), none, .plain (.mov (.const (.int .i64 1)))⟩])
 (.both (.seq [⟨(some 10), none, .plain (.faddr 0 (.tmp 2))⟩,
 ⟨(some 11), none, .plain (.load none (.tmp 10))⟩,
 ⟨(some 12), none, .plain (.bin .sub (.tmp 11) (.const (.int .i64 1)))⟩,
 ⟨(some 6), none, .plain (.mov (.tmp 12))⟩])
 (.both (.seq [⟨(some 13), none, .plain (.faddr 5 (.tmp 2))⟩,
 ⟨(some 14), none, .plain (.load none (.tmp 13))⟩,
 ⟨(some 7), none, .plain (.mov (.tmp 14))⟩])
 (.both (.both (.seq [⟨(some 15), none, .plain (.mov (.tmp 1))⟩])
 (.cond (.tmp 15)
 (.both (.seq [⟨(some 16), none, .plain (.faddr 0 (.tmp 2))⟩,
 ⟨(some 17), none, .plain (.load none (.tmp 16))⟩,
 ⟨(some 18), none, .plain (.bin .sub (.tmp 17) (.const (.int .i64 1)))⟩,
 ⟨(some 5), none, .plain (.mov (.tmp 18))⟩])
 (.both (.seq [⟨(some 6), none, .plain (.mov (.const (.int .i64 1)))⟩])
 (.seq [⟨(some 19), none, .plain (.faddr 6 (.tmp 2))⟩,
 ⟨(some 20), none, .plain (.load none (.tmp 19))⟩,
 ⟨(some 7), none, .plain (.mov (.tmp 20))⟩])))
 .skip))
 (.both (.seq [⟨(some 8), none, .plain (.mov (.const (.slice none 0 0)))⟩])
 (.both (.seq [⟨(some 21), none, .plain (.mov (.tmp 8))⟩,
 ⟨(some 22), none, .plain (.append ⟨1, 1, [(.int .u8 0)]⟩ true (.tmp 21) (.const (.string ⟨#[69, 70, 73, 32, 80, 65, 82, 84]⟩)))⟩,
 ⟨(some 8), none, .plain (.mov (.tmp 22))⟩])
 (.both (.seq [⟨(some 23), none, .plain (.mov (.tmp 8))⟩,
 ⟨(some 24), none, .call 32 [(.const (.int .u64 65536)), (.const (.int .i64 4))]⟩,
 ⟨(some 25), none, .plain (.append ⟨1, 1, [(.int .u8 0)]⟩ false (.tmp 23) (.tmp 24))⟩,
 ⟨(some 8), none, .plain (.mov (.tmp 25))⟩])
 (.both (.seq [⟨(some 26), none, .plain (.mov (.tmp 8))⟩,
 ⟨(some 27), none, .call 32 [(.const (.int .u64 92)), (.const (.int .i64 4))]⟩,
 ⟨(some 28), none, .plain (.append ⟨1, 1, [(.int .u8 0)]⟩ false (.tmp 26) (.tmp 27))⟩,
 ⟨(some 8), none, .plain (.mov (.tmp 28))⟩])
 (.both (.seq [⟨(some 29), none, .plain (.mov (.tmp 8))⟩,
 ⟨(some 30), none, .call 25 [(.const (.int .i64 8))]⟩,
 ⟨(some 31), none, .plain (.append ⟨1, 1, [(.int .u8 0)]⟩ false (.tmp 29) (.tmp 30))⟩,
 ⟨(some 8), none, .plain (.mov (.tmp 31))⟩])
 (.both (.seq [⟨(some 32), none, .plain (.mov (.tmp 8))⟩,
 ⟨(some 33), none, .plain (.mov (.tmp 5))⟩,
 ⟨(some 34), none, .plain (.conv (.int .u64) (.tmp 33))⟩,
 ⟨(some 35), none, .call 32 [(.tmp 34), (.const (.int .i64 8))]⟩,
 ⟨(some 36), none, .plain (.append ⟨1, 1, [(.int .u8 0)]⟩ false (.tmp 32) (.tmp 35))⟩,
 ⟨(some 8), none, .plain (.mov (.tmp 36))⟩])
 (.both (.seq [⟨(some 37), none, .plain (.mov (.tmp 8))⟩,
 ⟨(some 38), none, .plain (.mov (.tmp 6))⟩,
 ⟨(some 39), none, .plain (.conv (.int .u64) (.tmp 38))⟩,
 ⟨(some 40), none, .call 32 [(.tmp 39), (.const (.int .i64 8))]⟩,
 ⟨(some 41), none, .plain (.append ⟨1, 1, [(.int .u8 0)]⟩ false (.tmp 37) (.tmp 40))⟩,
 ⟨(some 8), none, .plain (.mov (.tmp 41))⟩])
 (.both (.seq [⟨(some 42), none, .plain (.mov (.tmp 8))⟩,
 ⟨(some 43), none, .plain (.faddr 1 (.tmp 2))⟩,
 ⟨(some 44), none, .plain (.load none (.tmp 43))⟩,
 ⟨(some 45), none, .plain (.conv (.int .u64) (.tmp 44))⟩,
 ⟨(some 46), none, .call 32 [(.tmp 45), (.const (.int .i64 8))]⟩,
 ⟨(some 47), none, .plain (.append ⟨1, 1, [(.int .u8 0)]⟩ false (.tmp 42) (.tmp 46))⟩,
 ⟨(some 8), none, .plain (.mov (.tmp 47))⟩])
 (.both (.seq [⟨(some 48), none, .plain (.mov (.tmp 8))⟩,
 ⟨(some 49), none, .plain (.faddr 2 (.tmp 2))⟩,
 ⟨(some 50), none, .plain (.load none (.tmp 49))⟩,
 ⟨(some 51), none, .plain (.conv (.int .u64) (.tmp 50))⟩,
 ⟨(some 52), none, .call 32 [(.tmp 51), (.const (.int .i64 8))]⟩,
 ⟨(some 53), none, .plain (.append ⟨1, 1, [(.int .u8 0)]⟩ false (.tmp 48) (.tmp 52))⟩,
 ⟨(some 8), none, .plain (.mov (.tmp 53))⟩])
 (.both (.seq [⟨(some 54), none, .plain (.mov (.tmp 8))⟩,
 ⟨(some 55), none, .plain (.faddr 3 (.tmp 2))⟩,
 ⟨(some 56), none, .plain (.load none (.tmp 55))⟩,
 ⟨(some 57), none, .plain (.append ⟨1, 1, [(.int .u8 0)]⟩ false (.tmp 54) (.tmp 56))⟩,
 ⟨(some 8), none, .plain (.mov (.tmp 57))⟩])
 (.both (.seq [⟨(some 58), none, .plain (.mov (.tmp 8))⟩,
 ⟨(some 59), none, .plain (.mov (.tmp 7))⟩,
 ⟨(some 60), none, .plain (.conv (.int .u64) (.tmp 59))⟩,
 ⟨(some 61), none, .call 32 [(.tmp 60), (.const (.int .i64 8))]⟩,
 ⟨(some 62), none, .plain (.append ⟨1, 1, [(.int .u8 0)]⟩ false (.tmp 58) (.tmp 61))⟩,
 ⟨(some 8), none, .plain (.mov (.tmp 62))⟩])
 (.both (.seq [⟨(some 63), none, .plain (.mov (.tmp 8))⟩,
 ⟨(some 64), none, .plain (.faddr 4 (.tmp 2))⟩,
 ⟨(some 65), none, .plain (.load none (.tmp 64))⟩,
 ⟨(some 66), none, .plain (.len .sl (.tmp 65))⟩,
 ⟨(some 67), none, .plain (.conv (.int .u64) (.tmp 66))⟩,
 ⟨(some 68), none, .call 32 [(.tmp 67), (.const (.int .i64 4))]⟩,
 ⟨(some 69), none, .plain (.append ⟨1, 1, [(.int .u8 0)]⟩ false (.tmp 63) (.tmp 68))⟩,
 ⟨(some 8), none, .plain (.mov (.tmp 69))⟩])
 (.both (.seq [⟨(some 70), none, .plain (.mov (.tmp 8))⟩,
 ⟨(some 71), none, .call 32 [(.const (.int .u64 128)), (.const (.int .i64 4))]⟩,
 ⟨(some 72), none, .plain (.append ⟨1, 1, [(.int .u8 0)]⟩ false (.tmp 70) (.tmp 71))⟩,
 ⟨(some 8), none, .plain (.mov (.tmp 72))⟩])
 (.both (.seq [⟨(some 73), none, .plain (.mov (.tmp 8))⟩,
 ⟨(some 74), none, .plain (.faddr 4 (.tmp 2))⟩,
 ⟨(some 75), none, .plain (.load none (.tmp 74))⟩,
 ⟨(some 76), none, .call 57 [(.tmp 75)]⟩,
 ⟨(some 77), none, .call 71 [(.tmp 76)]⟩,
 ⟨(some 78), none, .plain (.conv (.int .u64) (.tmp 77))⟩,
 ⟨(some 79), none, .call 32 [(.tmp 78), (.const (.int .i64 4))]⟩,
 ⟨(some 80), none, .plain (.append ⟨1, 1, [(.int .u8 0)]⟩ false (.tmp 73) (.tmp 79))⟩,
 ⟨(some 8), none, .plain (.mov (.tmp 80))⟩])
 (.both (.seq [⟨(some 81), none, .plain (.mov (.tmp 8))⟩,
 ⟨(some 82), none, .call 71 [(.tmp 81)]⟩,
 ⟨(some 9), none, .plain (.mov (.tmp 82))⟩])
 (.both (.seq [⟨(some 83), none, .plain (.mov (.tmp 8))⟩,
 ⟨(some 84), none, .plain (.mov (.tmp 9))⟩,
 ⟨(some 85), none, .plain (.conv (.int .u64) (.tmp 84))⟩,
 ⟨(some 86), none, .call 32 [(.tmp 85), (.const (.int .i64 4))]⟩,
 ⟨(some 87), none, .call 27 [(.tmp 83), (.const (.int .i64 16)), (.tmp 86)]⟩,
 ⟨(some 8), none, .plain (.mov (.tmp 87))⟩])
 (.both (.seq [⟨(some 88), none, .plain (.mov (.tmp 8))⟩,
 ⟨(some 89), none, .call 25 [(.const (.int .i64 420))]⟩,
 ⟨(some 90), none, .plain (.append ⟨1, 1, [(.int .u8 0)]⟩ false (.tmp 88) (.tmp 89))⟩,
 ⟨(some 4), none, .plain (.mov (.tmp 90))⟩])
 .ret))))))))))))))))))))))⟩
/-- fettle/octet.U32 -/
def a61 : AFunc := ⟨2, [.tmp 4, .tmp 5],
 (.both (.seq [⟨(some 4), none, .plain (.mov (.const (.int .u32 0)))⟩,
 ⟨(some 5), none, .plain (.mov (.const (.bool false)))⟩])
 (.both (.seq [⟨(some 6), none, .plain (.mov (.tmp 0))⟩,
 ⟨(some 7), none, .plain (.mov (.tmp 1))⟩,
 ⟨(some 8), none, .call 75 [(.tmp 6), (.tmp 7), (.const (.int .i64 4))]⟩,
 ⟨(some 9), none, .plain (.extract (.tmp 8) 0)⟩,
 ⟨(some 10), none, .plain (.extract (.tmp 8) 1)⟩,
 ⟨(some 4), none, .plain (.mov (.tmp 9))⟩,
 ⟨(some 5), none, .plain (.mov (.tmp 10))⟩])
 .ret))⟩
/-- fettle/extent.Norm -/
def a62 : AFunc := ⟨1, [.tmp 2],
 (.both (.seq [⟨(some 2), none, .plain (.mov (.const (.slice none 0 0)))⟩])
 (.both (.seq [⟨(some 8), none, .plain (.mov (.tmp 0))⟩,
 ⟨(some 9), none, .call 76 [(.tmp 8)]⟩,
 ⟨(some 3), none, .plain (.mov (.tmp 9))⟩])
 (.both (.seq [⟨(some 10), none, .plain (.mov (.tmp 3))⟩,
 ⟨(some 11), none, .call 77 [(.tmp 10), (.func 78)]⟩])
 (.both (.seq [⟨(some 4), none, .plain (.mov (.const (.slice none 0 0)))⟩])
 (.both (.both (.seq [⟨(some 12), none, .plain (.mov (.tmp 3))⟩,
 ⟨(some 13), none, .plain (.len .sl (.tmp 12))⟩,
 ⟨(some 14), none, .plain (.mov (.const (.int .i64 0)))⟩])
 (.block 0 (.loop (.both (.seq [⟨(some 15), none, .plain (.bin .lss (.tmp 14) (.tmp 13))⟩])
 (.both (.cond (.tmp 15)
 .skip
 (.exit 0))
 (.both (.block 1 (.both (.seq [⟨(some 16), none, .plain (.iaddr none 2 (.tmp 12) (.tmp 14))⟩,
 ⟨(some 17), none, .plain (.load (some 2) (.tmp 16))⟩,
 ⟨(some 6), none, .plain (.alloc [(.int .i64 0), (.int .i64 0)])⟩,
 ⟨none, none, .plain (.store 2 (.tmp 6) (.tmp 17))⟩])
 (.both (.both (.seq [⟨(some 18), none, .plain (.faddr 1 (.tmp 6))⟩,
 ⟨(some 19), none, .plain (.load none (.tmp 18))⟩,
 ⟨(some 20), none, .plain (.faddr 0 (.tmp 6))⟩,
 ⟨(some 21), none, .plain (.load none (.tmp 20))⟩,
 ⟨(some 22), none, .plain (.bin .leq (.tmp 19) (.tmp 21))⟩])
 (.cond (.tmp 22)
 (.exit 1)
 .skip))
 (.both (.both (.seq [⟨(some 23), none, .plain (.mov (.tmp 4))⟩,
 ⟨(some 24), none, .plain (.len .sl (.tmp 23))⟩,
 ⟨(some 7), none, .plain (.mov (.tmp 24))⟩])
 (.both (.seq [⟨(some 25), none, .plain (.mov (.tmp 7))⟩,
 ⟨(some 26), none, .plain (.bin .gtr (.tmp 25) (.const (.int .i64 0)))⟩,
 ⟨(some 27), none, .plain (.mov (.tmp 26))⟩,
 ⟨(some 28), (some (27, true)), .plain (.faddr 0 (.tmp 6))⟩,
 ⟨(some 29), (some (27, true)), .plain (.load none (.tmp 28))⟩,
 ⟨(some 30), (some (27, true)), .plain (.mov (.tmp 4))⟩,
 ⟨(some 31), (some (27, true)), .plain (.mov (.tmp 7))⟩,
 ⟨(some 32), (some (27, true)), .plain (.bin .sub (.tmp 31) (.const (.int .i64 1)))⟩,
 ⟨(some 33), (some (27, true)), .plain (.iaddr none 2 (.tmp 30) (.tmp 32))⟩,
 ⟨(some 34), (some (27, true)), .plain (.faddr 1 (.tmp 33))⟩,
 ⟨(some 35), (some (27, true)), .plain (.load none (.tmp 34))⟩,
 ⟨(some 36), (some (27, true)), .plain (.bin .leq (.tmp 29) (.tmp 35))⟩,
 ⟨(some 37), none, .plain (.pick (.tmp 27) (.tmp 36) (.const (.bool false)))⟩])
 (.cond (.tmp 37)
 (.both (.draw 0 [⟨0, .pure, 0, ⟨(some 38), none, .plain (.mov (.tmp 4))⟩, [], []⟩,
 ⟨1, .pure, 0, ⟨(some 39), none, .plain (.mov (.tmp 7))⟩, [], []⟩,
 ⟨2, .pure, 0, ⟨(some 40), none, .plain (.bin .sub (.tmp 39) (.const (.int .i64 1)))⟩, [], []⟩,
 ⟨3, .pure, 0, ⟨(some 41), none, .plain (.mov (.tmp 4))⟩, [], []⟩,
 ⟨4, .pure, 0, ⟨(some 42), none, .plain (.mov (.tmp 7))⟩, [], []⟩,
 ⟨5, .pure, 0, ⟨(some 43), none, .plain (.bin .sub (.tmp 42) (.const (.int .i64 1)))⟩, [], []⟩,
 ⟨6, .pure, 0, ⟨(some 44), none, .plain (.iaddr none 2 (.tmp 41) (.tmp 43))⟩, [], []⟩,
 ⟨7, .pure, 0, ⟨(some 45), none, .plain (.faddr 1 (.tmp 44))⟩, [], []⟩,
 ⟨8, .read, 0, ⟨(some 46), none, .plain (.load none (.tmp 45))⟩, [], []⟩,
 ⟨9, .pure, 0, ⟨(some 47), none, .plain (.faddr 1 (.tmp 6))⟩, [], []⟩,
 ⟨10, .read, 0, ⟨(some 48), none, .plain (.load none (.tmp 47))⟩, [], []⟩,
 ⟨11, .pure, 0, ⟨(some 49), none, .plain (.minmax true (.tmp 46) [(.tmp 48)])⟩, [], []⟩,
 ⟨12, .pure, 0, ⟨(some 50), none, .plain (.iaddr none 2 (.tmp 38) (.tmp 40))⟩, [], []⟩,
 ⟨13, .pure, 0, ⟨(some 51), none, .plain (.faddr 1 (.tmp 50))⟩, [], []⟩,
 ⟨14, .chain, 0, ⟨none, none, .plain (.store 1 (.tmp 51) (.tmp 49))⟩, [], []⟩])
 (.exit 1))
 .skip)))
 (.seq [⟨(some 52), none, .plain (.mov (.tmp 4))⟩,
 ⟨(some 53), none, .plain (.load (some 2) (.tmp 6))⟩,
 ⟨(some 54), none, .plain (.buildSlice ⟨2, 16, [(.int .i64 0), (.int .i64 0)]⟩ 1 [(0, (.tmp 53))])⟩,
 ⟨(some 55), none, .plain (.append ⟨2, 16, [(.int .i64 0), (.int .i64 0)]⟩ false (.tmp 52) (.tmp 54))⟩,
 ⟨(some 4), none, .plain (.mov (.tmp 55))⟩])))))
 (.seq [⟨(some 56), none, .plain (.bin .add (.tmp 14) (.const (.int .i64 1)))⟩,
 ⟨(some 14), none, .plain (.mov (.tmp 56))⟩])))))))
 (.both (.seq [⟨(some 57), none, .plain (.mov (.tmp 4))⟩,
 ⟨(some 2), none, .plain (.mov (.tmp 57))⟩])
 .ret))))))⟩
/-- (fettle/extent.Set).Bytes -/
def a63 : AFunc := ⟨1, [.tmp 2],
 (.both (.seq [⟨(some 2), none, .plain (.mov (.const (.int .i64 0)))⟩])
 (.both (.seq [⟨(some 3), none, .plain (.alloc [(.int .i64 0)])⟩,
 ⟨none, none, .plain (.store 1 (.tmp 3) (.const (.int .i64 0)))⟩])
 (.both (.both (.seq [⟨(some 6), none, .plain (.mov (.tmp 0))⟩,
 ⟨(some 7), none, .call 80 [(.tmp 6)]⟩])
 (.block 0 (.rangeF (.tmp 7) [8, 9]
 (.seq [⟨(some 5), none, .plain (.alloc [(.int .i64 0), (.int .i64 0)])⟩,
 ⟨none, none, .plain (.store 2 (.tmp 5) (.tmp 9))⟩])
 (.block 1 (.seq [⟨(some 10), none, .plain (.load none (.tmp 3))⟩,
 ⟨(some 11), none, .plain (.faddr 1 (.tmp 5))⟩,
 ⟨(some 12), none, .plain (.load none (.tmp 11))⟩,
 ⟨(some 13), none, .plain (.faddr 0 (.tmp 5))⟩,
 ⟨(some 14), none, .plain (.load none (.tmp 13))⟩,
 ⟨(some 15), none, .plain (.bin .sub (.tmp 12) (.tmp 14))⟩,
 ⟨(some 16), none, .plain (.bin .add (.tmp 10) (.tmp 15))⟩,
 ⟨none, none, .plain (.store 1 (.tmp 3) (.tmp 16))⟩])))))
 (.both (.seq [⟨(some 17), none, .plain (.load none (.tmp 3))⟩,
 ⟨(some 2), none, .plain (.mov (.tmp 17))⟩])
 .ret))))⟩
/-- fettle/fettleref01.Num -/
def a64 : AFunc := ⟨3, [.tmp 6, .tmp 7],
 (.both (.seq [⟨(some 6), none, .plain (.mov (.const (.int .u64 0)))⟩,
 ⟨(some 7), none, .plain (.mov (.const (.bool false)))⟩])
 (.both (.both (.seq [⟨(some 11), none, .plain (.mov (.tmp 0))⟩,
 ⟨(some 12), none, .plain (.mov (.tmp 1))⟩,
 ⟨(some 13), none, .plain (.mov (.tmp 2))⟩,
 ⟨(some 14), none, .call 81 [(.tmp 11), (.tmp 12), (.tmp 13)]⟩,
 ⟨(some 15), none, .plain (.un .not (.tmp 14))⟩])
 (.cond (.tmp 15)
 (.both (.seq [⟨(some 6), none, .plain (.mov (.const (.int .u64 0)))⟩,
 ⟨(some 7), none, .plain (.mov (.const (.bool false)))⟩])
 .ret)
 .skip))
 (.both (.seq [⟨(some 8), none, .plain (.mov (.const (.int .u64 0)))⟩])
 (.both (.seq [⟨(some 9), none, .plain (.mov (.const (.int .u64 1)))⟩])
 (.both (.both (.seq [⟨(some 10), none, .plain (.mov (.const (.int .i64 0)))⟩])
 (.block 0 (.loop (.both (.both (.seq [⟨(some 16), none, .plain (.mov (.tmp 10))⟩,
 ⟨(some 17), none, .plain (.mov (.tmp 2))⟩,
 ⟨(some 18), none, .plain (.bin .lss (.tmp 16) (.tmp 17))⟩])
 (.cond (.tmp 18)
 .skip
 (.exit 0)))
 (.both (.block 1 (.both (.seq [⟨(some 21), none, .plain (.mov (.tmp 8))⟩,
 ⟨(some 22), none, .plain (.mov (.tmp 0))⟩,
 ⟨(some 23), none, .plain (.mov (.tmp 1))⟩,
 ⟨(some 24), none, .plain (.mov (.tmp 10))⟩,
 ⟨(some 25), none, .plain (.bin .add (.tmp 23) (.tmp 24))⟩,
 ⟨(some 26), none, .plain (.iaddr none 1 (.tmp 22) (.tmp 25))⟩,
 ⟨(some 27), none, .plain (.load none (.tmp 26))⟩,
 ⟨(some 28), none, .plain (.conv (.int .u64) (.tmp 27))⟩,
 ⟨(some 29), none, .plain (.mov (.tmp 9))⟩,
 ⟨(some 30), none, .plain (.bin .mul (.tmp 28) (.tmp 29))⟩,
 ⟨(some 31), none, .plain (.bin .add (.tmp 21) (.tmp 30))⟩,
 ⟨(some 8), none, .plain (.mov (.tmp 31))⟩])
 (.seq [⟨(some 32), none, .plain (.mov (.tmp 9))⟩,
 ⟨(some 33), none, .plain (.bin .mul (.tmp 32) (.const (.int .u64 256)))⟩,
 ⟨(some 9), none, .plain (.mov (.tmp 33))⟩])))
 (.seq [⟨(some 19), none, .plain (.mov (.tmp 10))⟩,
 ⟨(some 20), none, .plain (.bin .add (.tmp 19) (.const (.int .i64 1)))⟩,
 ⟨(some 10), none, .plain (.mov (.tmp 20))⟩]))))))
 (.both (.seq [⟨(some 34), none, .plain (.mov (.tmp 8))⟩,
 ⟨(some 6), none, .plain (.mov (.tmp 34))⟩,
 ⟨(some 7), none, .plain (.mov (.const (.bool true)))⟩])
 .ret))))))⟩
/-- fettle/octet.Zero -/
def a65 : AFunc := ⟨1, [.tmp 2],
 (.both (.seq [⟨(some 2), none, .plain (.mov (.const (.bool false)))⟩])
 (.both (.both (.seq [⟨(some 5), none, .plain (.mov (.tmp 0))⟩,
 ⟨(some 6), none, .plain (.len .sl (.tmp 5))⟩,
 ⟨(some 7), none, .plain (.mov (.const (.int .i64 0)))⟩])
 (.block 0 (.loop (.both (.seq [⟨(some 8), none, .plain (.bin .lss (.tmp 7) (.tmp 6))⟩])
 (.both (.cond (.tmp 8)
 .skip
 (.exit 0))
 (.both (.block 1 (.both (.seq [⟨(some 9), none, .plain (.iaddr none 1 (.tmp 5) (.tmp 7))⟩,
 ⟨(some 10), none, .plain (.load none (.tmp 9))⟩,
 ⟨(some 4), none, .plain (.mov (.tmp 10))⟩])
 (.both (.seq [⟨(some 11), none, .plain (.mov (.tmp 4))⟩,
 ⟨(some 12), none, .plain (.bin .neq (.tmp 11) (.const (.int .u8 0)))⟩])
 (.cond (.tmp 12)
 (.both (.seq [⟨(some 2), none, .plain (.mov (.const (.bool false)))⟩])
 .ret)
 .skip))))
 (.seq [⟨(some 13), none, .plain (.bin .add (.tmp 7) (.const (.int .i64 1)))⟩,
 ⟨(some 7), none, .plain (.mov (.tmp 13))⟩])))))))
 (.both (.seq [⟨(some 2), none, .plain (.mov (.const (.bool true)))⟩])
 .ret)))⟩
/-- fettle/fettleref03.Both -/
def a66 : AFunc := ⟨3, [.tmp 6],
 (.both (.seq [⟨(some 6), none, .plain (.mov (.const (.slice none 0 0)))⟩])
 (.both (.seq [⟨(some 12), none, .plain (.mov (.tmp 0))⟩,
 ⟨(some 13), none, .plain (.mov (.tmp 1))⟩,
 ⟨(some 14), none, .plain (.buildSlice ⟨1, 24, [(.slice none 0 0)]⟩ 2 [(0, (.tmp 12)), (1, (.tmp 13))])⟩,
 ⟨(some 15), none, .call 82 [(.tmp 14)]⟩,
 ⟨(some 7), none, .plain (.mov (.tmp 15))⟩])
 (.both (.seq [⟨(some 8), none, .plain (.mov (.const (.slice none 0 0)))⟩])
 (.both (.both (.seq [⟨(some 9), none, .plain (.mov (.const (.int .i64 0)))⟩])
 (.block 0 (.loop (.both (.both (.seq [⟨(some 16), none, .plain (.mov (.tmp 9))⟩,
 ⟨(some 17), none, .plain (.bin .add (.tmp 16) (.const (.int .i64 1)))⟩,
 ⟨(some 18), none, .plain (.mov (.tmp 7))⟩,
 ⟨(some 19), none, .plain (.len .sl (.tmp 18))⟩,
 ⟨(some 20), none, .plain (.bin .lss (.tmp 17) (.tmp 19))⟩])
 (.cond (.tmp 20)
 .skip
 (.exit 0)))
 (.both (.block 1 (.both (.seq [⟨(some 23), none, .plain (.mov (.tmp 0))⟩,
 ⟨(some 24), none, .plain (.mov (.tmp 7))⟩,
 ⟨(some 25), none, .plain (.mov (.tmp 9))⟩,
 ⟨(some 26), none, .plain (.iaddr none 1 (.tmp 24) (.tmp 25))⟩,
 ⟨(some 27), none, .plain (.load none (.tmp 26))⟩,
 ⟨(some 28), none, .call 83 [(.tmp 23), (.tmp 27)]⟩,
 ⟨(some 10), none, .plain (.mov (.tmp 28))⟩])
 (.both (.seq [⟨(some 29), none, .plain (.mov (.tmp 1))⟩,
 ⟨(some 30), none, .plain (.mov (.tmp 7))⟩,
 ⟨(some 31), none, .plain (.mov (.tmp 9))⟩,
 ⟨(some 32), none, .plain (.iaddr none 1 (.tmp 30) (.tmp 31))⟩,
 ⟨(some 33), none, .plain (.load none (.tmp 32))⟩,
 ⟨(some 34), none, .call 83 [(.tmp 29), (.tmp 33)]⟩,
 ⟨(some 11), none, .plain (.mov (.tmp 34))⟩])
 (.both (.seq [⟨(some 35), none, .plain (.mov (.tmp 2))⟩,
 ⟨(some 36), none, .plain (.bin .eql (.tmp 35) (.const (.int .i64 0)))⟩,
 ⟨(some 37), none, .plain (.mov (.tmp 36))⟩,
 ⟨(some 38), (some (37, true)), .plain (.mov (.tmp 10))⟩,
 ⟨(some 39), none, .plain (.pick (.tmp 37) (.tmp 38) (.const (.bool false)))⟩,
 ⟨(some 40), none, .plain (.mov (.tmp 39))⟩,
 ⟨(some 41), (some (40, true)), .plain (.mov (.tmp 11))⟩,
 ⟨(some 42), none, .plain (.pick (.tmp 40) (.tmp 41) (.const (.bool false)))⟩,
 ⟨(some 43), none, .plain (.mov (.tmp 42))⟩,
 ⟨(some 44), (some (43, false)), .plain (.mov (.tmp 2))⟩,
 ⟨(some 45), (some (43, false)), .plain (.bin .eql (.tmp 44) (.const (.int .i64 1)))⟩,
 ⟨(some 46), (some (43, false)), .plain (.mov (.tmp 45))⟩,
 ⟨(some 47), (some (46, true)), .plain (.mov (.tmp 10))⟩,
 ⟨(some 48), (some (43, false)), .plain (.pick (.tmp 46) (.tmp 47) (.const (.bool false)))⟩,
 ⟨(some 49), (some (43, false)), .plain (.mov (.tmp 48))⟩,
 ⟨(some 50), (some (49, true)), .plain (.mov (.tmp 11))⟩,
 ⟨(some 51), (some (49, true)), .plain (.un .not (.tmp 50))⟩,
 ⟨(some 52), (some (43, false)), .plain (.pick (.tmp 49) (.tmp 51) (.const (.bool false)))⟩,
 ⟨(some 53), none, .plain (.pick (.tmp 43) (.const (.bool true)) (.tmp 52))⟩,
 ⟨(some 54), none, .plain (.mov (.tmp 53))⟩,
 ⟨(some 55), (some (54, false)), .plain (.mov (.tmp 2))⟩,
 ⟨(some 56), (some (54, false)), .plain (.bin .eql (.tmp 55) (.const (.int .i64 2)))⟩,
 ⟨(some 57), (some (54, false)), .plain (.mov (.tmp 56))⟩,
 ⟨(some 58), (some (57, true)), .plain (.mov (.tmp 10))⟩,
 ⟨(some 59), (some (57, true)), .plain (.mov (.tmp 58))⟩,
 ⟨(some 60), (some (59, false)), .plain (.mov (.tmp 11))⟩,
 ⟨(some 61), (some (57, true)), .plain (.pick (.tmp 59) (.const (.bool true)) (.tmp 60))⟩,
 ⟨(some 62), (some (54, false)), .plain (.pick (.tmp 57) (.tmp 61) (.const (.bool false)))⟩,
 ⟨(some 63), none, .plain (.pick (.tmp 54) (.const (.bool true)) (.tmp 62))⟩])
 (.cond (.tmp 63)
 (.draw 1 [⟨0, .pure, 0, ⟨(some 64), none, .plain (.mov (.tmp 8))⟩, [], []⟩,
 ⟨1, .pure, 0, ⟨(some 65), none, .plain (.mov (.tmp 7))⟩, [], []⟩,
 ⟨2, .pure, 0, ⟨(some 66), none, .plain (.mov (.tmp 9))⟩, [], []⟩,
 ⟨3, .pure, 0, ⟨(some 67), none, .plain (.iaddr none 1 (.tmp 65) (.tmp 66))⟩, [], []⟩,
 ⟨4, .read, 0, ⟨(some 68), none, .plain (.load none (.tmp 67))⟩, [], []⟩,
 ⟨5, .pure, 0, ⟨(some 69), none, .plain (.mov (.tmp 7))⟩, [], []⟩,
 ⟨6, .pure, 0, ⟨(some 70), none, .plain (.mov (.tmp 9))⟩, [], []⟩,
 ⟨7, .pure, 0, ⟨(some 71), none, .plain (.bin .add (.tmp 70) (.const (.int .i64 1)))⟩, [], []⟩,
 ⟨8, .pure, 0, ⟨(some 72), none, .plain (.iaddr none 1 (.tmp 69) (.tmp 71))⟩, [], []⟩,
 ⟨9, .read, 0, ⟨(some 73), none, .plain (.load none (.tmp 72))⟩, [], []⟩,
 ⟨10, .pure, 0, ⟨(some 74), none, .plain (.build (.str [(.int .i64 0), (.int .i64 0)] [(0, 1), (1, 1)]) [(0, (.tmp 68)), (1, (.tmp 73))])⟩, [], []⟩,
 ⟨11, .fresh, 0, ⟨(some 75), none, .plain (.buildSlice ⟨2, 16, [(.int .i64 0), (.int .i64 0)]⟩ 1 [(0, (.tmp 74))])⟩, [], []⟩,
 ⟨12, .chain, 0, ⟨(some 76), none, .plain (.append ⟨2, 16, [(.int .i64 0), (.int .i64 0)]⟩ false (.tmp 64) (.tmp 75))⟩, [], []⟩,
 ⟨13, .pure, 0, ⟨(some 8), none, .plain (.mov (.tmp 76))⟩, [], []⟩])
 .skip)))))
 (.seq [⟨(some 21), none, .plain (.mov (.tmp 9))⟩,
 ⟨(some 22), none, .plain (.bin .add (.tmp 21) (.const (.int .i64 1)))⟩,
 ⟨(some 9), none, .plain (.mov (.tmp 22))⟩]))))))
 (.both (.seq [⟨(some 77), none, .plain (.mov (.tmp 8))⟩,
 ⟨(some 78), none, .call 84 [(.tmp 77)]⟩,
 ⟨(some 6), none, .plain (.mov (.tmp 78))⟩])
 .ret)))))⟩
/-- fettle/fettleref14.Sum -/
def a67 : AFunc := ⟨1, [.tmp 2],
 (.both (.seq [⟨(some 2), none, .plain (.mov (.const (.int .u32 0)))⟩])
 (.both (.seq [⟨(some 3), none, .plain (.mov (.tmp 0))⟩,
 ⟨(some 4), none, .call 71 [(.tmp 3)]⟩,
 ⟨(some 2), none, .plain (.mov (.tmp 4))⟩])
 .ret))⟩
/-- fettle/crc.Over -/
def a68 : AFunc := ⟨2, [.tmp 4],
 (.both (.seq [⟨(some 4), none, .plain (.mov (.const (.int .u32 0)))⟩])
 (.both (.seq [⟨(some 5), none, .plain (.mov (.const (.int .u32 4294967295)))⟩])
 (.both (.both (.seq [⟨(some 8), none, .plain (.mov (.tmp 0))⟩,
 ⟨(some 9), none, .plain (.len .sl (.tmp 8))⟩,
 ⟨(some 10), none, .plain (.mov (.const (.int .i64 0)))⟩])
 (.block 0 (.loop (.both (.seq [⟨(some 11), none, .plain (.bin .lss (.tmp 10) (.tmp 9))⟩])
 (.both (.cond (.tmp 11)
 .skip
 (.exit 0))
 (.both (.block 1 (.both (.seq [⟨(some 12), none, .plain (.mov (.tmp 10))⟩,
 ⟨(some 13), none, .plain (.iaddr none 1 (.tmp 8) (.tmp 10))⟩,
 ⟨(some 14), none, .plain (.load none (.tmp 13))⟩,
 ⟨(some 6), none, .plain (.mov (.tmp 12))⟩,
 ⟨(some 7), none, .plain (.mov (.tmp 14))⟩])
 (.both (.both (.seq [⟨(some 15), none, .plain (.mov (.tmp 6))⟩,
 ⟨(some 16), none, .plain (.mov (.tmp 1))⟩,
 ⟨(some 17), none, .plain (.bin .geq (.tmp 15) (.tmp 16))⟩,
 ⟨(some 18), none, .plain (.mov (.tmp 17))⟩,
 ⟨(some 19), (some (18, true)), .plain (.mov (.tmp 6))⟩,
 ⟨(some 20), (some (18, true)), .plain (.conv (.int .u64) (.tmp 19))⟩,
 ⟨(some 21), (some (18, true)), .plain (.mov (.tmp 1))⟩,
 ⟨(some 22), (some (18, true)), .plain (.conv (.int .u64) (.tmp 21))⟩,
 ⟨(some 23), (some (18, true)), .plain (.bin .sub (.tmp 20) (.tmp 22))⟩,
 ⟨(some 24), (some (18, true)), .plain (.bin .lss (.tmp 23) (.const (.int .u64 4)))⟩,
 ⟨(some 25), none, .plain (.pick (.tmp 18) (.tmp 24) (.const (.bool false)))⟩])
 (.cond (.tmp 25)
 (.seq [⟨(some 7), none, .plain (.mov (.const (.int .u8 0)))⟩])
 .skip))
 (.seq [⟨(some 26), none, .plain (.mov (.tmp 5))⟩,
 ⟨(some 27), none, .plain (.mov (.tmp 7))⟩,
 ⟨(some 28), none, .call 85 [(.tmp 26), (.tmp 27)]⟩,
 ⟨(some 5), none, .plain (.mov (.tmp 28))⟩]))))
 (.seq [⟨(some 29), none, .plain (.bin .add (.tmp 10) (.const (.int .i64 1)))⟩,
 ⟨(some 10), none, .plain (.mov (.tmp 29))⟩])))))))
 (.both (.seq [⟨(some 30), none, .plain (.mov (.tmp 5))⟩,
 ⟨(some 31), none, .plain (.un .xor (.tmp 30))⟩,
 ⟨(some 4), none, .plain (.mov (.tmp 31))⟩])
 .ret))))⟩
/-- fettle/gpt.small -/
def a69 : AFunc := ⟨2, [.tmp 4],
 (.both (.seq [⟨(some 4), none, .plain (.mov (.const (.int .i64 0)))⟩])
 (.both (.seq [⟨(some 8), none, .plain (.mov (.tmp 0))⟩,
 ⟨(some 9), none, .plain (.mov (.tmp 1))⟩,
 ⟨(some 10), none, .call 86 [(.tmp 8), (.tmp 9)]⟩,
 ⟨(some 7), none, .plain (.mov (.tmp 10))⟩,
 ⟨(some 11), none, .plain (.extract (.tmp 7) 0)⟩,
 ⟨(some 12), none, .plain (.extract (.tmp 7) 1)⟩,
 ⟨(some 5), none, .plain (.mov (.tmp 11))⟩,
 ⟨(some 6), none, .plain (.mov (.tmp 12))⟩])
 (.both (.seq [⟨(some 13), none, .plain (.mov (.tmp 5))⟩,
 ⟨(some 14), none, .plain (.minmax false (.tmp 13) [(.const (.int .u64 8388608))])⟩,
 ⟨(some 15), none, .plain (.conv (.int .i64) (.tmp 14))⟩,
 ⟨(some 4), none, .plain (.mov (.tmp 15))⟩])
 .ret)))⟩
/-- fettle/crc.Sum -/
def a70 : AFunc := ⟨1, [.tmp 2],
 (.both (.seq [⟨(some 2), none, .plain (.mov (.const (.int .u32 0)))⟩])
 (.both (.seq [⟨(some 3), none, .plain (.mov (.const (.int .u32 0)))⟩])
 (.both (.both (.seq [⟨(some 6), none, .plain (.mov (.tmp 0))⟩,
 ⟨(some 7), none, .plain (.len .sl (.tmp 6))⟩,
 ⟨(some 8), none, .plain (.mov (.const (.int .i64 0)))⟩])
 (.block 0 (.loop (.both (.seq [⟨(some 9), none, .plain (.bin .lss (.tmp 8) (.tmp 7))⟩])
 (.both (.cond (.tmp 9)
 .skip
 (.exit 0))
 (.both (.block 1 (.both (.seq [⟨(some 10), none, .plain (.iaddr none 1 (.tmp 6) (.tmp 8))⟩,
 ⟨(some 11), none, .plain (.load none (.tmp 10))⟩,
 ⟨(some 5), none, .plain (.mov (.tmp 11))⟩])
 (.seq [⟨(some 12), none, .plain (.mov (.tmp 3))⟩,
 ⟨(some 13), none, .plain (.mov (.tmp 5))⟩,
 ⟨(some 14), none, .call 87 [(.tmp 12), (.tmp 13)]⟩,
 ⟨(some 3), none, .plain (.mov (.tmp 14))⟩])))
 (.seq [⟨(some 15), none, .plain (.bin .add (.tmp 8) (.const (.int .i64 1)))⟩,
 ⟨(some 8), none, .plain (.mov (.tmp 15))⟩])))))))
 (.both (.seq [⟨(some 16), none, .plain (.mov (.tmp 3))⟩,
 ⟨(some 2), none, .plain (.mov (.tmp 16))⟩])
 .ret))))⟩
/-- fettle/fettleref02.Fast -/
def a71 : AFunc := ⟨1, [.tmp 2],
 (.both (.seq [⟨(some 2), none, .plain (.mov (.const (.int .u32 0)))⟩])
 (.both (.seq [⟨(some 3), none, .plain (.mov (.const (.int .u32 4294967295)))⟩])
 (.both (.both (.seq [⟨(some 4), none, .plain (.mov (.const (.int .i64 0)))⟩])
 (.block 0 (.loop (.both (.both (.seq [⟨(some 7), none, .plain (.mov (.tmp 4))⟩,
 ⟨(some 8), none, .plain (.mov (.tmp 0))⟩,
 ⟨(some 9), none, .plain (.len .sl (.tmp 8))⟩,
 ⟨(some 10), none, .plain (.bin .lss (.tmp 7) (.tmp 9))⟩])
 (.cond (.tmp 10)
 .skip
 (.exit 0)))
 (.both (.block 1 (.both (.seq [⟨(some 13), none, .plain (.mov (.tmp 3))⟩,
 ⟨(some 14), none, .plain (.mov (.tmp 0))⟩,
 ⟨(some 15), none, .plain (.mov (.tmp 4))⟩,
 ⟨(some 16), none, .plain (.iaddr none 1 (.tmp 14) (.tmp 15))⟩,
 ⟨(some 17), none, .plain (.load none (.tmp 16))⟩,
 ⟨(some 18), none, .plain (.conv (.int .u32) (.tmp 17))⟩,
 ⟨(some 19), none, .plain (.bin .xor (.tmp 13) (.tmp 18))⟩,
 ⟨(some 3), none, .plain (.mov (.tmp 19))⟩])
 (.both (.seq [⟨(some 5), none, .plain (.mov (.const (.int .i64 0)))⟩])
 (.block 2 (.loop (.both (.both (.seq [⟨(some 20), none, .plain (.mov (.tmp 5))⟩,
 ⟨(some 21), none, .plain (.bin .lss (.tmp 20) (.const (.int .i64 8)))⟩])
 (.cond (.tmp 21)
 .skip
 (.exit 2)))
 (.both (.block 3 (.both (.seq [⟨(some 24), none, .plain (.mov (.tmp 3))⟩,
 ⟨(some 25), none, .plain (.bin .rem (.tmp 24) (.const (.int .u32 2)))⟩,
 ⟨(some 6), none, .plain (.mov (.tmp 25))⟩])
 (.both (.seq [⟨(some 26), none, .plain (.mov (.tmp 3))⟩,
 ⟨(some 27), none, .plain (.bin .quo (.tmp 26) (.const (.int .u32 2)))⟩,
 ⟨(some 3), none, .plain (.mov (.tmp 27))⟩])
 (.both (.seq [⟨(some 28), none, .plain (.mov (.tmp 6))⟩,
 ⟨(some 29), none, .plain (.bin .eql (.tmp 28) (.const (.int .u32 1)))⟩])
 (.cond (.tmp 29)
 (.seq [⟨(some 30), none, .plain (.mov (.tmp 3))⟩,
 ⟨(some 31), none, .plain (.bin .xor (.tmp 30) (.const (.int .u32 3988292384)))⟩,
 ⟨(some 3), none, .plain (.mov (.tmp 31))⟩])
 .skip)))))
 (.seq [⟨(some 22), none, .plain (.mov (.tmp 5))⟩,
 ⟨(some 23), none, .plain (.bin .add (.tmp 22) (.const (.int .i64 1)))⟩,
 ⟨(some 5), none, .plain (.mov (.tmp 23))⟩]))))))))
 (.seq [⟨(some 11), none, .plain (.mov (.tmp 4))⟩,
 ⟨(some 12), none, .plain (.bin .add (.tmp 11) (.const (.int .i64 1)))⟩,
 ⟨(some 4), none, .plain (.mov (.tmp 12))⟩]))))))
 (.both (.seq [⟨(some 32), none, .plain (.mov (.tmp 3))⟩,
 ⟨(some 33), none, .plain (.bin .sub (.const (.int .u32 4294967295)) (.tmp 32))⟩,
 ⟨(some 2), none, .plain (.mov (.tmp 33))⟩])
 .ret))))⟩
/-- fettle/fettleref14.big -/
def a72 : AFunc := ⟨2, [.tmp 4],
 (.both (.seq [⟨(some 4), none, .plain (.mov (.const (.int .i64 0)))⟩])
 (.both (.seq [⟨(some 8), none, .plain (.mov (.tmp 0))⟩,
 ⟨(some 9), none, .plain (.mov (.tmp 1))⟩,
 ⟨(some 10), none, .call 64 [(.tmp 8), (.tmp 9), (.const (.int .i64 8))]⟩,
 ⟨(some 7), none, .plain (.mov (.tmp 10))⟩,
 ⟨(some 11), none, .plain (.extract (.tmp 7) 0)⟩,
 ⟨(some 12), none, .plain (.extract (.tmp 7) 1)⟩,
 ⟨(some 5), none, .plain (.mov (.tmp 11))⟩,
 ⟨(some 6), none, .plain (.mov (.tmp 12))⟩])
 (.both (.both (.seq [⟨(some 13), none, .plain (.mov (.tmp 5))⟩,
 ⟨(some 14), none, .plain (.bin .gtr (.tmp 13) (.const (.int .u64 8388608)))⟩])
 (.cond (.tmp 14)
 (.seq [⟨(some 5), none, .plain (.mov (.const (.int .u64 8388608)))⟩])
 .skip))
 (.both (.seq [⟨(some 15), none, .plain (.mov (.tmp 5))⟩,
 ⟨(some 16), none, .plain (.conv (.int .i64) (.tmp 15))⟩,
 ⟨(some 4), none, .plain (.mov (.tmp 16))⟩])
 .ret))))⟩
/-- fettle/octet.little[uint32] -/
def a75 : AFunc := ⟨3, [.tmp 6, .tmp 7],
 (.both (.seq [⟨(some 6), none, .plain (.mov (.const (.int .u32 0)))⟩,
 ⟨(some 7), none, .plain (.mov (.const (.bool false)))⟩])
 (.both (.seq [⟨(some 8), none, .plain (.mov (.const (.int .u32 0)))⟩])
 (.both (.both (.seq [⟨(some 10), none, .plain (.mov (.tmp 0))⟩,
 ⟨(some 11), none, .plain (.mov (.tmp 1))⟩,
 ⟨(some 12), none, .plain (.mov (.tmp 2))⟩,
 ⟨(some 13), none, .call 90 [(.tmp 10), (.tmp 11), (.tmp 12)]⟩,
 ⟨(some 14), none, .plain (.un .not (.tmp 13))⟩])
 (.cond (.tmp 14)
 (.both (.seq [⟨(some 6), none, .plain (.mov (.const (.int .u32 0)))⟩,
 ⟨(some 7), none, .plain (.mov (.const (.bool false)))⟩])
 .ret)
 .skip))
 (.both (.both (.seq [⟨(some 15), none, .plain (.mov (.tmp 2))⟩,
 ⟨(some 16), none, .plain (.bin .sub (.tmp 15) (.const (.int .i64 1)))⟩,
 ⟨(some 9), none, .plain (.mov (.tmp 16))⟩])
 (.block 0 (.loop (.both (.both (.seq [⟨(some 17), none, .plain (.mov (.tmp 9))⟩,
 ⟨(some 18), none, .plain (.bin .geq (.tmp 17) (.const (.int .i64 0)))⟩])
 (.cond (.tmp 18)
 .skip
 (.exit 0)))
 (.both (.block 1 (.seq [⟨(some 21), none, .plain (.mov (.tmp 8))⟩,
 ⟨(some 22), none, .plain (.bin .shl (.tmp 21) (.const (.int .u64 8)))⟩,
 ⟨(some 23), none, .plain (.mov (.tmp 0))⟩,
 ⟨(some 24), none, .plain (.mov (.tmp 1))⟩,
 ⟨(some 25), none, .plain (.mov (.tmp 9))⟩,
 ⟨(some 26), none, .plain (.bin .add (.tmp 24) (.tmp 25))⟩,
 ⟨(some 27), none, .plain (.iaddr none 1 (.tmp 23) (.tmp 26))⟩,
 ⟨(some 28), none, .plain (.load none (.tmp 27))⟩,
 ⟨(some 29), none, .plain (.conv (.int .u32) (.tmp 28))⟩,
 ⟨(some 30), none, .plain (.bin .or (.tmp 22) (.tmp 29))⟩,
 ⟨(some 8), none, .plain (.mov (.tmp 30))⟩]))
 (.seq [⟨(some 19), none, .plain (.mov (.tmp 9))⟩,
 ⟨(some 20), none, .plain (.bin .sub (.tmp 19) (.const (.int .i64 1)))⟩,
 ⟨(some 9), none, .plain (.mov (.tmp 20))⟩]))))))
 (.both (.seq [⟨(some 31), none, .plain (.mov (.tmp 8))⟩,
 ⟨(some 6), none, .plain (.mov (.tmp 31))⟩,
 ⟨(some 7), none, .plain (.mov (.const (.bool true)))⟩])
 .ret)))))⟩
/-- slices.Clone[[]fettle/api.Ext,fettle/api.Ext] -/
def a76 : AFunc := ⟨1, [.tmp 2],
 (.both (.seq [⟨(some 2), none, .plain (.mov (.const (.slice none 0 0)))⟩])
 (.both (.both (.seq [⟨(some 3), none, .plain (.mov (.tmp 0))⟩,
 ⟨(some 4), none, .plain (.eqN false .sl true (.tmp 3) (.const (.slice none 0 0)))⟩])
 (.cond (.tmp 4)
 (.both (.seq [⟨(some 2), none, .plain (.mov (.const (.slice none 0 0)))⟩])
 .ret)
 .skip))
 (.both (.seq [⟨(some 5), none, .plain (.buildSlice ⟨2, 16, [(.int .i64 0), (.int .i64 0)]⟩ 0 [])⟩,
 ⟨(some 6), none, .plain (.mov (.tmp 0))⟩,
 ⟨(some 7), none, .plain (.append ⟨2, 16, [(.int .i64 0), (.int .i64 0)]⟩ false (.tmp 5) (.tmp 6))⟩,
 ⟨(some 2), none, .plain (.mov (.tmp 7))⟩])
 .ret)))⟩
/-- slices.SortFunc[[]fettle/api.Ext,fettle/api.Ext] -/
def a77 : AFunc := ⟨2, [],
 (.both (.seq [⟨(some 5), none, .plain (.mov (.tmp 0))⟩,
 ⟨(some 6), none, .plain (.len .sl (.tmp 5))⟩,
 ⟨(some 4), none, .plain (.mov (.tmp 6))⟩])
 (.seq [⟨(some 7), none, .plain (.mov (.tmp 0))⟩,
 ⟨(some 8), none, .plain (.mov (.tmp 4))⟩,
 ⟨(some 9), none, .plain (.mov (.tmp 4))⟩,
 ⟨(some 10), none, .plain (.conv (.int .u64) (.tmp 9))⟩,
 ⟨(some 11), none, .call 92 [(.tmp 10)]⟩,
 ⟨(some 12), none, .plain (.mov (.tmp 1))⟩,
 ⟨(some 13), none, .call 91 [(.tmp 7), (.const (.int .i64 0)), (.tmp 8), (.tmp 11), (.tmp 12)]⟩]))⟩
/-- fettle/extent.Norm$1 -/
def a78 : AFunc := ⟨2, [.tmp 4],
 (.both (.seq [⟨(some 2), none, .plain (.box (.tmp 0))⟩,
 ⟨(some 3), none, .plain (.box (.tmp 1))⟩,
 ⟨(some 4), none, .plain (.mov (.const (.int .i64 0)))⟩])
 (.both (.seq [⟨(some 5), none, .plain (.faddr 0 (.tmp 2))⟩,
 ⟨(some 6), none, .plain (.load none (.tmp 5))⟩,
 ⟨(some 7), none, .plain (.faddr 0 (.tmp 3))⟩,
 ⟨(some 8), none, .plain (.load none (.tmp 7))⟩,
 ⟨(some 9), none, .call 79 [(.tmp 6), (.tmp 8)]⟩,
 ⟨(some 4), none, .plain (.mov (.tmp 9))⟩])
 .ret))⟩
/-- cmp.Compare[int64] -/
def a79 : AFunc := ⟨2, [.tmp 4],
 (.both (.seq [⟨(some 4), none, .plain (.mov (.const (.int .i64 0)))⟩])
 (.both (.seq [⟨(some 7), none, .plain (.mov (.tmp 0))⟩,
 ⟨(some 8), none, .call 93 [(.tmp 7)]⟩,
 ⟨(some 5), none, .plain (.mov (.tmp 8))⟩])
 (.both (.seq [⟨(some 9), none, .plain (.mov (.tmp 1))⟩,
 ⟨(some 10), none, .call 93 [(.tmp 9)]⟩,
 ⟨(some 6), none, .plain (.mov (.tmp 10))⟩])
 (.both (.both (.seq [⟨(some 11), none, .plain (.mov (.tmp 5))⟩])
 (.cond (.tmp 11)
 (.both (.both (.seq [⟨(some 12), none, .plain (.mov (.tmp 6))⟩])
 (.cond (.tmp 12)
 (.both (.seq [⟨(some 4), none, .plain (.mov (.const (.int .i64 0)))⟩])
 .ret)
 .skip))
 (.both (.seq [⟨(some 4), none, .plain (.mov (.const (.int .i64 (-1))))⟩])
 .ret))
 .skip))
 (.both (.both (.seq [⟨(some 13), none, .plain (.mov (.tmp 6))⟩])
 (.cond (.tmp 13)
 (.both (.seq [⟨(some 4), none, .plain (.mov (.const (.int .i64 1)))⟩])
 .ret)
 .skip))
 (.both (.both (.seq [⟨(some 14), none, .plain (.mov (.tmp 0))⟩,
 ⟨(some 15), none, .plain (.mov (.tmp 1))⟩,
 ⟨(some 16), none, .plain (.bin .lss (.tmp 14) (.tmp 15))⟩])
 (.cond (.tmp 16)
 (.both (.seq [⟨(some 4), none, .plain (.mov (.const (.int .i64 (-1))))⟩])
 .ret)
 .skip))
 (.both (.both (.seq [⟨(some 17), none, .plain (.mov (.tmp 0))⟩,
 ⟨(some 18), none, .plain (.mov (.tmp 1))⟩,
 ⟨(some 19), none, .plain (.bin .gtr (.tmp 17) (.tmp 18))⟩])
 (.cond (.tmp 19)
 (.both (.seq [⟨(some 4), none, .plain (.mov (.const (.int .i64 1)))⟩])
 .ret)
 .skip))
 (.both (.seq [⟨(some 4), none, .plain (.mov (.const (.int .i64 0)))⟩])
 .ret))))))))⟩
/-- (fettle/extent.Set).All -/
def a80 : AFunc := ⟨1, [.tmp 2],
 (.both (.seq [⟨(some 1), none, .plain (.box (.tmp 0))⟩,
 ⟨(some 2), none, .plain (.mov (.const .nilFunc))⟩])
 (.both (.seq [⟨(some 3), none, .plain (.mkfunc (.func 94) [] [(.tmp 1)])⟩,
 ⟨(some 2), none, .plain (.mov (.tmp 3))⟩])
 .ret))⟩
/-- fettle/fettleref01.In -/
def a81 : AFunc := ⟨3, [.tmp 6],
 (.both (.seq [⟨(some 6), none, .plain (.mov (.const (.bool false)))⟩])
 (.both (.seq [⟨(some 7), none, .plain (.mov (.tmp 1))⟩,
 ⟨(some 8), none, .plain (.bin .geq (.tmp 7) (.const (.int .i64 0)))⟩,
 ⟨(some 9), none, .plain (.mov (.tmp 8))⟩,
 ⟨(some 10), (some (9, true)), .plain (.mov (.tmp 2))⟩,
 ⟨(some 11), (some (9, true)), .plain (.bin .geq (.tmp 10) (.const (.int .i64 0)))⟩,
 ⟨(some 12), none, .plain (.pick (.tmp 9) (.tmp 11) (.const (.bool false)))⟩,
 ⟨(some 13), none, .plain (.mov (.tmp 12))⟩,
 ⟨(some 14), (some (13, true)), .plain (.mov (.tmp 1))⟩,
 ⟨(some 15), (some (13, true)), .plain (.mov (.tmp 0))⟩,
 ⟨(some 16), (some (13, true)), .plain (.len .sl (.tmp 15))⟩,
 ⟨(some 17), (some (13, true)), .plain (.bin .leq (.tmp 14) (.tmp 16))⟩,
 ⟨(some 18), none, .plain (.pick (.tmp 13) (.tmp 17) (.const (.bool false)))⟩,
 ⟨(some 19), none, .plain (.mov (.tmp 18))⟩,
 ⟨(some 20), (some (19, true)), .plain (.mov (.tmp 0))⟩,
 ⟨(some 21), (some (19, true)), .plain (.len .sl (.tmp 20))⟩,
 ⟨(some 22), (some (19, true)), .plain (.mov (.tmp 1))⟩,
 ⟨(some 23), (some (19, true)), .plain (.bin .sub (.tmp 21) (.tmp 22))⟩,
 ⟨(some 24), (some (19, true)), .plain (.mov (.tmp 2))⟩,
 ⟨(some 25), (some (19, true)), .plain (.bin .geq (.tmp 23) (.tmp 24))⟩,
 ⟨(some 26), none, .plain (.pick (.tmp 19) (.tmp 25) (.const (.bool false)))⟩,
 ⟨(some 6), none, .plain (.mov (.tmp 26))⟩])
 .ret))⟩
/-- fettle/fettleref03.marks -/
def a82 : AFunc := ⟨1, [.tmp 2],
 (.both (.seq [⟨(some 2), none, .plain (.mov (.const (.slice none 0 0)))⟩])
 (.both (.seq [⟨(some 3), none, .plain (.mov (.const (.slice none 0 0)))⟩])
 (.both (.both (.seq [⟨(some 4), none, .plain (.mov (.const (.int .i64 0)))⟩])
 (.block 0 (.loop (.both (.both (.seq [⟨(some 6), none, .plain (.mov (.tmp 4))⟩,
 ⟨(some 7), none, .plain (.mov (.tmp 0))⟩,
 ⟨(some 8), none, .plain (.len .sl (.tmp 7))⟩,
 ⟨(some 9), none, .plain (.bin .lss (.tmp 6) (.tmp 8))⟩])
 (.cond (.tmp 9)
 .skip
 (.exit 0)))
 (.both (.block 1 (.both (.seq [⟨(some 5), none, .plain (.mov (.const (.int .i64 0)))⟩])
 (.block 2 (.loop (.both (.both (.seq [⟨(some 12), none, .plain (.mov (.tmp 5))⟩,
 ⟨(some 13), none, .plain (.mov (.tmp 0))⟩,
 ⟨(some 14), none, .plain (.mov (.tmp 4))⟩,
 ⟨(some 15), none, .plain (.iaddr none 1 (.tmp 13) (.tmp 14))⟩,
 ⟨(some 16), none, .plain (.load none (.tmp 15))⟩,
 ⟨(some 17), none, .plain (.len .sl (.tmp 16))⟩,
 ⟨(some 18), none, .plain (.bin .lss (.tmp 12) (.tmp 17))⟩])
 (.cond (.tmp 18)
 .skip
 (.exit 2)))
 (.both (.block 3 (.both (.seq [⟨(some 21), none, .plain (.mov (.tmp 3))⟩,
 ⟨(some 22), none, .plain (.mov (.tmp 0))⟩,
 ⟨(some 23), none, .plain (.mov (.tmp 4))⟩,
 ⟨(some 24), none, .plain (.iaddr none 1 (.tmp 22) (.tmp 23))⟩,
 ⟨(some 25), none, .plain (.load none (.tmp 24))⟩,
 ⟨(some 26), none, .plain (.mov (.tmp 5))⟩,
 ⟨(some 27), none, .plain (.iaddr none 2 (.tmp 25) (.tmp 26))⟩,
 ⟨(some 28), none, .plain (.faddr 0 (.tmp 27))⟩,
 ⟨(some 29), none, .plain (.load none (.tmp 28))⟩,
 ⟨(some 30), none, .call 95 [(.tmp 21), (.tmp 29)]⟩,
 ⟨(some 3), none, .plain (.mov (.tmp 30))⟩])
 (.seq [⟨(some 31), none, .plain (.mov (.tmp 3))⟩,
 ⟨(some 32), none, .plain (.mov (.tmp 0))⟩,
 ⟨(some 33), none, .plain (.mov (.tmp 4))⟩,
 ⟨(some 34), none, .plain (.iaddr none 1 (.tmp 32) (.tmp 33))⟩,
 ⟨(some 35), none, .plain (.load none (.tmp 34))⟩,
 ⟨(some 36), none, .plain (.mov (.tmp 5))⟩,
 ⟨(some 37), none, .plain (.iaddr none 2 (.tmp 35) (.tmp 36))⟩,
 ⟨(some 38), none, .plain (.faddr 1 (.tmp 37))⟩,
 ⟨(some 39), none, .plain (.load none (.tmp 38))⟩,
 ⟨(some 40), none, .call 95 [(.tmp 31), (.tmp 39)]⟩,
 ⟨(some 3), none, .plain (.mov (.tmp 40))⟩])))
 (.seq [⟨(some 19), none, .plain (.mov (.tmp 5))⟩,
 ⟨(some 20), none, .plain (.bin .add (.tmp 19) (.const (.int .i64 1)))⟩,
 ⟨(some 5), none, .plain (.mov (.tmp 20))⟩])))))))
 (.seq [⟨(some 10), none, .plain (.mov (.tmp 4))⟩,
 ⟨(some 11), none, .plain (.bin .add (.tmp 10) (.const (.int .i64 1)))⟩,
 ⟨(some 4), none, .plain (.mov (.tmp 11))⟩]))))))
 (.both (.seq [⟨(some 41), none, .plain (.mov (.tmp 3))⟩,
 ⟨(some 2), none, .plain (.mov (.tmp 41))⟩])
 .ret))))⟩
/-- fettle/fettleref03.Has -/
def a83 : AFunc := ⟨2, [.tmp 4],
 (.both (.seq [⟨(some 4), none, .plain (.mov (.const (.bool false)))⟩])
 (.both (.both (.seq [⟨(some 5), none, .plain (.mov (.const (.int .i64 0)))⟩])
 (.block 0 (.loop (.both (.both (.seq [⟨(some 6), none, .plain (.mov (.tmp 5))⟩,
 ⟨(some 7), none, .plain (.mov (.tmp 0))⟩,
 ⟨(some 8), none, .plain (.len .sl (.tmp 7))⟩,
 ⟨(some 9), none, .plain (.bin .lss (.tmp 6) (.tmp 8))⟩])
 (.cond (.tmp 9)
 .skip
 (.exit 0)))
 (.both (.block 1 (.both (.seq [⟨(some 12), none, .plain (.mov (.tmp 1))⟩,
 ⟨(some 13), none, .plain (.mov (.tmp 0))⟩,
 ⟨(some 14), none, .plain (.mov (.tmp 5))⟩,
 ⟨(some 15), none, .plain (.iaddr none 2 (.tmp 13) (.tmp 14))⟩,
 ⟨(some 16), none, .plain (.faddr 0 (.tmp 15))⟩,
 ⟨(some 17), none, .plain (.load none (.tmp 16))⟩,
 ⟨(some 18), none, .plain (.bin .geq (.tmp 12) (.tmp 17))⟩,
 ⟨(some 19), none, .plain (.mov (.tmp 18))⟩,
 ⟨(some 20), (some (19, true)), .plain (.mov (.tmp 1))⟩,
 ⟨(some 21), (some (19, true)), .plain (.mov (.tmp 0))⟩,
 ⟨(some 22), (some (19, true)), .plain (.mov (.tmp 5))⟩,
 ⟨(some 23), (some (19, true)), .plain (.iaddr none 2 (.tmp 21) (.tmp 22))⟩,
 ⟨(some 24), (some (19, true)), .plain (.faddr 1 (.tmp 23))⟩,
 ⟨(some 25), (some (19, true)), .plain (.load none (.tmp 24))⟩,
 ⟨(some 26), (some (19, true)), .plain (.bin .lss (.tmp 20) (.tmp 25))⟩,
 ⟨(some 27), none, .plain (.pick (.tmp 19) (.tmp 26) (.const (.bool false)))⟩])
 (.cond (.tmp 27)
 (.both (.seq [⟨(some 4), none, .plain (.mov (.const (.bool true)))⟩])
 .ret)
 .skip)))
 (.seq [⟨(some 10), none, .plain (.mov (.tmp 5))⟩,
 ⟨(some 11), none, .plain (.bin .add (.tmp 10) (.const (.int .i64 1)))⟩,
 ⟨(some 5), none, .plain (.mov (.tmp 11))⟩]))))))
 (.both (.seq [⟨(some 4), none, .plain (.mov (.const (.bool false)))⟩])
 .ret)))⟩
/-- fettle/fettleref03.joined -/
def a84 : AFunc := ⟨1, [.tmp 2],
 (.both (.seq [⟨(some 2), none, .plain (.mov (.const (.slice none 0 0)))⟩])
 (.both (.seq [⟨(some 3), none, .plain (.mov (.const (.slice none 0 0)))⟩])
 (.both (.both (.seq [⟨(some 4), none, .plain (.mov (.const (.int .i64 0)))⟩])
 (.block 0 (.loop (.both (.both (.seq [⟨(some 6), none, .plain (.mov (.tmp 4))⟩,
 ⟨(some 7), none, .plain (.mov (.tmp 0))⟩,
 ⟨(some 8), none, .plain (.len .sl (.tmp 7))⟩,
 ⟨(some 9), none, .plain (.bin .lss (.tmp 6) (.tmp 8))⟩])
 (.cond (.tmp 9)
 .skip
 (.exit 0)))
 (.both (.block 1 (.both (.seq [⟨(some 12), none, .plain (.mov (.tmp 3))⟩,
 ⟨(some 13), none, .plain (.len .sl (.tmp 12))⟩,
 ⟨(some 5), none, .plain (.mov (.tmp 13))⟩])
 (.both (.seq [⟨(some 14), none, .plain (.mov (.tmp 5))⟩,
 ⟨(some 15), none, .plain (.bin .gtr (.tmp 14) (.const (.int .i64 0)))⟩,
 ⟨(some 16), none, .plain (.mov (.tmp 15))⟩,
 ⟨(some 17), (some (16, true)), .plain (.mov (.tmp 3))⟩,
 ⟨(some 18), (some (16, true)), .plain (.mov (.tmp 5))⟩,
 ⟨(some 19), (some (16, true)), .plain (.bin .sub (.tmp 18) (.const (.int .i64 1)))⟩,
 ⟨(some 20), (some (16, true)), .plain (.iaddr none 2 (.tmp 17) (.tmp 19))⟩,
 ⟨(some 21), (some (16, true)), .plain (.faddr 1 (.tmp 20))⟩,
 ⟨(some 22), (some (16, true)), .plain (.load none (.tmp 21))⟩,
 ⟨(some 23), (some (16, true)), .plain (.mov (.tmp 0))⟩,
 ⟨(some 24), (some (16, true)), .plain (.mov (.tmp 4))⟩,
 ⟨(some 25), (some (16, true)), .plain (.iaddr none 2 (.tmp 23) (.tmp 24))⟩,
 ⟨(some 26), (some (16, true)), .plain (.faddr 0 (.tmp 25))⟩,
 ⟨(some 27), (some (16, true)), .plain (.load none (.tmp 26))⟩,
 ⟨(some 28), (some (16, true)), .plain (.bin .eql (.tmp 22) (.tmp 27))⟩,
 ⟨(some 29), none, .plain (.pick (.tmp 16) (.tmp 28) (.const (.bool false)))⟩])
 (.cond (.tmp 29)
 (.seq [⟨(some 30), none, .plain (.mov (.tmp 3))⟩,
 ⟨(some 31), none, .plain (.mov (.tmp 5))⟩,
 ⟨(some 32), none, .plain (.bin .sub (.tmp 31) (.const (.int .i64 1)))⟩,
 ⟨(some 33), none, .plain (.mov (.tmp 0))⟩,
 ⟨(some 34), none, .plain (.mov (.tmp 4))⟩,
 ⟨(some 35), none, .plain (.iaddr none 2 (.tmp 33) (.tmp 34))⟩,
 ⟨(some 36), none, .plain (.faddr 1 (.tmp 35))⟩,
 ⟨(some 37), none, .plain (.load none (.tmp 36))⟩,
 ⟨(some 38), none, .plain (.iaddr none 2 (.tmp 30) (.tmp 32))⟩,
 ⟨(some 39), none, .plain (.faddr 1 (.tmp 38))⟩,
 ⟨none, none, .plain (.store 1 (.tmp 39) (.tmp 37))⟩])
 (.seq [⟨(some 40), none, .plain (.mov (.tmp 3))⟩,
 ⟨(some 41), none, .plain (.mov (.tmp 0))⟩,
 ⟨(some 42), none, .plain (.mov (.tmp 4))⟩,
 ⟨(some 43), none, .plain (.iaddr none 2 (.tmp 41) (.tmp 42))⟩,
 ⟨(some 44), none, .plain (.load (some 2) (.tmp 43))⟩,
 ⟨(some 45), none, .plain (.buildSlice ⟨2, 16, [(.int .i64 0), (.int .i64 0)]⟩ 1 [(0, (.tmp 44))])⟩,
 ⟨(some 46), none, .plain (.append ⟨2, 16, [(.int .i64 0), (.int .i64 0)]⟩ false (.tmp 40) (.tmp 45))⟩,
 ⟨(some 3), none, .plain (.mov (.tmp 46))⟩])))))
 (.seq [⟨(some 10), none, .plain (.mov (.tmp 4))⟩,
 ⟨(some 11), none, .plain (.bin .add (.tmp 10) (.const (.int .i64 1)))⟩,
 ⟨(some 4), none, .plain (.mov (.tmp 11))⟩]))))))
 (.both (.seq [⟨(some 47), none, .plain (.mov (.tmp 3))⟩,
 ⟨(some 2), none, .plain (.mov (.tmp 47))⟩])
 .ret))))⟩
/-- fettle/crc.step -/
def a85 : AFunc := ⟨2, [.tmp 4],
 (.both (.seq [⟨(some 4), none, .plain (.mov (.const (.int .u32 0)))⟩])
 (.both (.seq [⟨(some 5), none, .plain (.mov (.tmp 0))⟩,
 ⟨(some 6), none, .plain (.mov (.tmp 1))⟩,
 ⟨(some 7), none, .plain (.conv (.int .u32) (.tmp 6))⟩,
 ⟨(some 8), none, .plain (.bin .xor (.tmp 5) (.tmp 7))⟩,
 ⟨(some 0), none, .plain (.mov (.tmp 8))⟩])
 (.both (.both (.seq [⟨(some 9), none, .plain (.mov (.const (.int .i64 0)))⟩])
 (.block 0 (.loop (.both (.seq [⟨(some 10), none, .plain (.bin .lss (.tmp 9) (.const (.int .i64 8)))⟩])
 (.both (.cond (.tmp 10)
 .skip
 (.exit 0))
 (.both (.block 1 (.both (.seq [⟨(some 11), none, .plain (.mov (.tmp 0))⟩,
 ⟨(some 12), none, .plain (.bin .and (.tmp 11) (.const (.int .u32 1)))⟩,
 ⟨(some 13), none, .plain (.bin .eql (.tmp 12) (.const (.int .u32 1)))⟩])
 (.cond (.tmp 13)
 (.seq [⟨(some 14), none, .plain (.mov (.tmp 0))⟩,
 ⟨(some 15), none, .plain (.bin .shr (.tmp 14) (.const (.int .u64 1)))⟩,
 ⟨(some 16), none, .plain (.bin .xor (.tmp 15) (.const (.int .u32 3988292384)))⟩,
 ⟨(some 0), none, .plain (.mov (.tmp 16))⟩])
 (.seq [⟨(some 17), none, .plain (.mov (.tmp 0))⟩,
 ⟨(some 18), none, .plain (.bin .shr (.tmp 17) (.const (.int .u64 1)))⟩,
 ⟨(some 0), none, .plain (.mov (.tmp 18))⟩]))))
 (.seq [⟨(some 19), none, .plain (.bin .add (.tmp 9) (.const (.int .i64 1)))⟩,
 ⟨(some 9), none, .plain (.mov (.tmp 19))⟩])))))))
 (.both (.seq [⟨(some 20), none, .plain (.mov (.tmp 0))⟩,
 ⟨(some 4), none, .plain (.mov (.tmp 20))⟩])
 .ret))))⟩
/-- fettle/octet.U64 -/
def a86 : AFunc := ⟨2, [.tmp 4, .tmp 5],
 (.both (.seq [⟨(some 4), none, .plain (.mov (.const (.int .u64 0)))⟩,
 ⟨(some 5), none, .plain (.mov (.const (.bool false)))⟩])
 (.both (.seq [⟨(some 6), none, .plain (.mov (.tmp 0))⟩,
 ⟨(some 7), none, .plain (.mov (.tmp 1))⟩,
 ⟨(some 8), none, .call 96 [(.tmp 6), (.tmp 7), (.const (.int .i64 8))]⟩,
 ⟨(some 9), none, .plain (.extract (.tmp 8) 0)⟩,
 ⟨(some 10), none, .plain (.extract (.tmp 8) 1)⟩,
 ⟨(some 4), none, .plain (.mov (.tmp 9))⟩,
 ⟨(some 5), none, .plain (.mov (.tmp 10))⟩])
 .ret))⟩
/-- fettle/crc.More -/
def a87 : AFunc := ⟨2, [.tmp 4],
 (.both (.seq [⟨(some 4), none, .plain (.mov (.const (.int .u32 0)))⟩])
 (.both (.seq [⟨(some 7), none, .plain (.mov (.tmp 0))⟩,
 ⟨(some 8), none, .plain (.un .xor (.tmp 7))⟩,
 ⟨(some 0), none, .plain (.mov (.tmp 8))⟩])
 (.both (.both (.seq [⟨(some 9), none, .plain (.mov (.tmp 1))⟩,
 ⟨(some 10), none, .plain (.len .sl (.tmp 9))⟩,
 ⟨(some 11), none, .plain (.mov (.const (.int .i64 0)))⟩])
 (.block 0 (.loop (.both (.seq [⟨(some 12), none, .plain (.bin .lss (.tmp 11) (.tmp 10))⟩])
 (.both (.cond (.tmp 12)
 .skip
 (.exit 0))
 (.both (.block 1 (.both (.seq [⟨(some 13), none, .plain (.iaddr none 1 (.tmp 9) (.tmp 11))⟩,
 ⟨(some 14), none, .plain (.load none (.tmp 13))⟩,
 ⟨(some 6), none, .plain (.mov (.tmp 14))⟩])
 (.seq [⟨(some 15), none, .plain (.mov (.tmp 0))⟩,
 ⟨(some 16), none, .plain (.mov (.tmp 6))⟩,
 ⟨(some 17), none, .call 85 [(.tmp 15), (.tmp 16)]⟩,
 ⟨(some 0), none, .plain (.mov (.tmp 17))⟩])))
 (.seq [⟨(some 18), none, .plain (.bin .add (.tmp 11) (.const (.int .i64 1)))⟩,
 ⟨(some 11), none, .plain (.mov (.tmp 18))⟩])))))))
 (.both (.seq [⟨(some 19), none, .plain (.mov (.tmp 0))⟩,
 ⟨(some 20), none, .plain (.un .xor (.tmp 19))⟩,
 ⟨(some 4), none, .plain (.mov (.tmp 20))⟩])
 .ret))))⟩
/-- fettle/octet.in -/
def a90 : AFunc := ⟨3, [.tmp 6],
 (.both (.seq [⟨(some 6), none, .plain (.mov (.const (.bool false)))⟩])
 (.both (.seq [⟨(some 7), none, .plain (.mov (.tmp 1))⟩,
 ⟨(some 8), none, .plain (.bin .geq (.tmp 7) (.const (.int .i64 0)))⟩,
 ⟨(some 9), none, .plain (.mov (.tmp 8))⟩,
 ⟨(some 10), (some (9, true)), .plain (.mov (.tmp 2))⟩,
 ⟨(some 11), (some (9, true)), .plain (.bin .geq (.tmp 10) (.const (.int .i64 0)))⟩,
 ⟨(some 12), none, .plain (.pick (.tmp 9) (.tmp 11) (.const (.bool false)))⟩,
 ⟨(some 13), none, .plain (.mov (.tmp 12))⟩,
 ⟨(some 14), (some (13, true)), .plain (.mov (.tmp 1))⟩,
 ⟨(some 15), (some (13, true)), .plain (.mov (.tmp 0))⟩,
 ⟨(some 16), (some (13, true)), .plain (.len .sl (.tmp 15))⟩,
 ⟨(some 17), (some (13, true)), .plain (.bin .leq (.tmp 14) (.tmp 16))⟩,
 ⟨(some 18), none, .plain (.pick (.tmp 13) (.tmp 17) (.const (.bool false)))⟩,
 ⟨(some 19), none, .plain (.mov (.tmp 18))⟩,
 ⟨(some 20), (some (19, true)), .plain (.mov (.tmp 2))⟩,
 ⟨(some 21), (some (19, true)), .plain (.mov (.tmp 0))⟩,
 ⟨(some 22), (some (19, true)), .plain (.len .sl (.tmp 21))⟩,
 ⟨(some 23), (some (19, true)), .plain (.mov (.tmp 1))⟩,
 ⟨(some 24), (some (19, true)), .plain (.bin .sub (.tmp 22) (.tmp 23))⟩,
 ⟨(some 25), (some (19, true)), .plain (.bin .leq (.tmp 20) (.tmp 24))⟩,
 ⟨(some 26), none, .plain (.pick (.tmp 19) (.tmp 25) (.const (.bool false)))⟩,
 ⟨(some 6), none, .plain (.mov (.tmp 26))⟩])
 .ret))⟩
/-- slices.pdqsortCmpFunc[fettle/api.Ext] -/
def a91 : AFunc := ⟨5, [],
 (.both (.seq [⟨(some 10), none, .plain (.mov (.const (.bool true)))⟩])
 (.both (.seq [⟨(some 11), none, .plain (.mov (.const (.bool true)))⟩])
 (.block 0 (.loop (.block 1 (.both (.seq [⟨(some 21), none, .plain (.mov (.tmp 2))⟩,
 ⟨(some 22), none, .plain (.mov (.tmp 1))⟩,
 ⟨(some 23), none, .plain (.bin .sub (.tmp 21) (.tmp 22))⟩,
 ⟨(some 12), none, .plain (.mov (.tmp 23))⟩])
 (.both (.both (.seq [⟨(some 24), none, .plain (.mov (.tmp 12))⟩,
 ⟨(some 25), none, .plain (.bin .leq (.tmp 24) (.const (.int .i64 12)))⟩])
 (.cond (.tmp 25)
 (.both (.seq [⟨(some 26), none, .plain (.mov (.tmp 0))⟩,
 ⟨(some 27), none, .plain (.mov (.tmp 1))⟩,
 ⟨(some 28), none, .plain (.mov (.tmp 2))⟩,
 ⟨(some 29), none, .plain (.mov (.tmp 4))⟩,
 ⟨(some 30), none, .call 97 [(.tmp 26), (.tmp 27), (.tmp 28), (.tmp 29)]⟩])
 .ret)
 .skip))
 (.both (.both (.seq [⟨(some 31), none, .plain (.mov (.tmp 3))⟩,
 ⟨(some 32), none, .plain (.bin .eql (.tmp 31) (.const (.int .i64 0)))⟩])
 (.cond (.tmp 32)
 (.both (.seq [⟨(some 33), none, .plain (.mov (.tmp 0))⟩,
 ⟨(some 34), none, .plain (.mov (.tmp 1))⟩,
 ⟨(some 35), none, .plain (.mov (.tmp 2))⟩,
 ⟨(some 36), none, .plain (.mov (.tmp 4))⟩,
 ⟨(some 37), none, .call 98 [(.tmp 33), (.tmp 34), (.tmp 35), (.tmp 36)]⟩])
 .ret)
 .skip))
 (.both (.both (.seq [⟨(some 38), none, .plain (.mov (.tmp 10))⟩,
 ⟨(some 39), none, .plain (.un .not (.tmp 38))⟩])
 (.cond (.tmp 39)
 (.both (.seq [⟨(some 40), none, .plain (.mov (.tmp 0))⟩,
 ⟨(some 41), none, .plain (.mov (.tmp 1))⟩,
 ⟨(some 42), none, .plain (.mov (.tmp 2))⟩,
 ⟨(some 43), none, .plain (.mov (.tmp 4))⟩,
 ⟨(some 44), none, .call 99 [(.tmp 40), (.tmp 41), (.tmp 42), (.tmp 43)]⟩])
 (.seq [⟨(some 45), none, .plain (.mov (.tmp 3))⟩,
 ⟨(some 46), none, .plain (.bin .sub (.tmp 45) (.const (.int .i64 1)))⟩,
 ⟨(some 3), none, .plain (.mov (.tmp 46))⟩]))
 .skip))
 (.both (.seq [⟨(some 48), none, .plain (.mov (.tmp 0))⟩,
 ⟨(some 49), none, .plain (.mov (.tmp 1))⟩,
 ⟨(some 50), none, .plain (.mov (.tmp 2))⟩,
 ⟨(some 51), none, .plain (.mov (.tmp 4))⟩,
 ⟨(some 52), none, .call 100 [(.tmp 48), (.tmp 49), (.tmp 50), (.tmp 51)]⟩,
 ⟨(some 47), none, .plain (.mov (.tmp 52))⟩,
 ⟨(some 53), none, .plain (.extract (.tmp 47) 0)⟩,
 ⟨(some 54), none, .plain (.extract (.tmp 47) 1)⟩,
 ⟨(some 13), none, .plain (.mov (.tmp 53))⟩,
 ⟨(some 14), none, .plain (.mov (.tmp 54))⟩])
 (.both (.both (.seq [⟨(some 55), none, .plain (.mov (.tmp 14))⟩,
 ⟨(some 56), none, .plain (.bin .eql (.tmp 55) (.const (.int .i64 2)))⟩])
 (.cond (.tmp 56)
 (.both (.seq [⟨(some 57), none, .plain (.mov (.tmp 0))⟩,
 ⟨(some 58), none, .plain (.mov (.tmp 1))⟩,
 ⟨(some 59), none, .plain (.mov (.tmp 2))⟩,
 ⟨(some 60), none, .plain (.mov (.tmp 4))⟩,
 ⟨(some 61), none, .call 101 [(.tmp 57), (.tmp 58), (.tmp 59), (.tmp 60)]⟩])
 (.both (.seq [⟨(some 62), none, .plain (.mov (.tmp 2))⟩,
 ⟨(some 63), none, .plain (.bin .sub (.tmp 62) (.const (.int .i64 1)))⟩,
 ⟨(some 64), none, .plain (.mov (.tmp 13))⟩,
 ⟨(some 65), none, .plain (.mov (.tmp 1))⟩,
 ⟨(some 66), none, .plain (.bin .sub (.tmp 64) (.tmp 65))⟩,
 ⟨(some 67), none, .plain (.bin .sub (.tmp 63) (.tmp 66))⟩,
 ⟨(some 13), none, .plain (.mov (.tmp 67))⟩])
 (.seq [⟨(some 14), none, .plain (.mov (.const (.int .i64 1)))⟩])))
 .skip))
 (.both (.both (.seq [⟨(some 68), none, .plain (.mov (.tmp 10))⟩,
 ⟨(some 69), none, .plain (.mov (.tmp 68))⟩,
 ⟨(some 70), (some (69, true)), .plain (.mov (.tmp 11))⟩,
 ⟨(some 71), none, .plain (.pick (.tmp 69) (.tmp 70) (.const (.bool false)))⟩,
 ⟨(some 72), none, .plain (.mov (.tmp 71))⟩,
 ⟨(some 73), (some (72, true)), .plain (.mov (.tmp 14))⟩,
 ⟨(some 74), (some (72, true)), .plain (.bin .eql (.tmp 73) (.const (.int .i64 1)))⟩,
 ⟨(some 75), none, .plain (.pick (.tmp 72) (.tmp 74) (.const (.bool false)))⟩])
 (.cond (.tmp 75)
 (.both (.seq [⟨(some 76), none, .plain (.mov (.tmp 0))⟩,
 ⟨(some 77), none, .plain (.mov (.tmp 1))⟩,
 ⟨(some 78), none, .plain (.mov (.tmp 2))⟩,
 ⟨(some 79), none, .plain (.mov (.tmp 4))⟩,
 ⟨(some 80), none, .call 102 [(.tmp 76), (.tmp 77), (.tmp 78), (.tmp 79)]⟩])
 (.cond (.tmp 80)
 .ret
 .skip))
 .skip))
 (.both (.both (.draw 0 [⟨0, .pure, 0, ⟨(some 81), none, .plain (.mov (.tmp 1))⟩, [], []⟩,
 ⟨1, .pure, 0, ⟨(some 82), none, .plain (.bin .gtr (.tmp 81) (.const (.int .i64 0)))⟩, [], []⟩,
 ⟨2, .pure, 0, ⟨(some 83), none, .plain (.mov (.tmp 82))⟩, [], []⟩,
 ⟨3, .pure, 0, ⟨(some 84), (some (83, true)), .plain (.mov (.tmp 4))⟩, [], []⟩,
 ⟨4, .pure, 0, ⟨(some 85), (some (83, true)), .plain (.mov (.tmp 0))⟩, [], []⟩,
 ⟨5, .pure, 0, ⟨(some 86), (some (83, true)), .plain (.mov (.tmp 1))⟩, [], []⟩,
 ⟨6, .pure, 0, ⟨(some 87), (some (83, true)), .plain (.bin .sub (.tmp 86) (.const (.int .i64 1)))⟩, [], []⟩,
 ⟨7, .pure, 0, ⟨(some 88), (some (83, true)), .plain (.iaddr none 2 (.tmp 85) (.tmp 87))⟩, [], []⟩,
 ⟨8, .read, 0, ⟨(some 89), (some (83, true)), .plain (.load (some 2) (.tmp 88))⟩, [], []⟩,
 ⟨9, .pure, 0, ⟨(some 90), (some (83, true)), .plain (.mov (.tmp 0))⟩, [], []⟩,
 ⟨10, .pure, 0, ⟨(some 91), (some (83, true)), .plain (.mov (.tmp 13))⟩, [], []⟩,
 ⟨11, .pure, 0, ⟨(some 92), (some (83, true)), .plain (.iaddr none 2 (.tmp 90) (.tmp 91))⟩, [], []⟩,
 ⟨12, .read, 0, ⟨(some 93), (some (83, true)), .plain (.load (some 2) (.tmp 92))⟩, [], []⟩,
 ⟨13, .chain, 0, ⟨(some 94), (some (83, true)), .callv (.tmp 84) [(.tmp 89), (.tmp 93)]⟩, [], []⟩,
 ⟨14, .pure, 0, ⟨(some 95), (some (83, true)), .plain (.bin .lss (.tmp 94) (.const (.int .i64 0)))⟩, [], []⟩,
 ⟨15, .pure, 0, ⟨(some 96), (some (83, true)), .plain (.un .not (.tmp 95))⟩, [], []⟩,
 ⟨16, .pure, 0, ⟨(some 97), none, .plain (.pick (.tmp 83) (.tmp 96) (.const (.bool false)))⟩, [], []⟩])
 (.cond (.tmp 97)
 (.both (.seq [⟨(some 98), none, .plain (.mov (.tmp 0))⟩,
 ⟨(some 99), none, .plain (.mov (.tmp 1))⟩,
 ⟨(some 100), none, .plain (.mov (.tmp 2))⟩,
 ⟨(some 101), none, .plain (.mov (.tmp 13))⟩,
 ⟨(some 102), none, .plain (.mov (.tmp 4))⟩,
 ⟨(some 103), none, .call 103 [(.tmp 98), (.tmp 99), (.tmp 100), (.tmp 101), (.tmp 102)]⟩,
 ⟨(some 15), none, .plain (.mov (.tmp 103))⟩])
 (.both (.seq [⟨(some 104), none, .plain (.mov (.tmp 15))⟩,
 ⟨(some 1), none, .plain (.mov (.tmp 104))⟩])
 (.exit 1)))
 .skip))
 (.both (.seq [⟨(some 106), none, .plain (.mov (.tmp 0))⟩,
 ⟨(some 107), none, .plain (.mov (.tmp 1))⟩,
 ⟨(some 108), none, .plain (.mov (.tmp 2))⟩,
 ⟨(some 109), none, .plain (.mov (.tmp 13))⟩,
 ⟨(some 110), none, .plain (.mov (.tmp 4))⟩,
 ⟨(some 111), none, .call 104 [(.tmp 106), (.tmp 107), (.tmp 108), (.tmp 109), (.tmp 110)]⟩,
 ⟨(some 105), none, .plain (.mov (.tmp 111))⟩,
 ⟨(some 112), none, .plain (.extract (.tmp 105) 0)⟩,
 ⟨(some 113), none, .plain (.extract (.tmp 105) 1)⟩,
 ⟨(some 16), none, .plain (.mov (.tmp 112))⟩,
 ⟨(some 17), none, .plain (.mov (.tmp 113))⟩])
 (.both (.seq [⟨(some 114), none, .plain (.mov (.tmp 17))⟩,
 ⟨(some 11), none, .plain (.mov (.tmp 114))⟩])
 (.both (.seq [⟨(some 115), none, .plain (.mov (.tmp 16))⟩,
 ⟨(some 116), none, .plain (.mov (.tmp 1))⟩,
 ⟨(some 117), none, .plain (.bin .sub (.tmp 115) (.tmp 116))⟩,
 ⟨(some 118), none, .plain (.mov (.tmp 2))⟩,
 ⟨(some 119), none, .plain (.mov (.tmp 16))⟩,
 ⟨(some 120), none, .plain (.bin .sub (.tmp 118) (.tmp 119))⟩,
 ⟨(some 18), none, .plain (.mov (.tmp 117))⟩,
 ⟨(some 19), none, .plain (.mov (.tmp 120))⟩])
 (.both (.seq [⟨(some 121), none, .plain (.mov (.tmp 12))⟩,
 ⟨(some 122), none, .plain (.bin .quo (.tmp 121) (.const (.int .i64 8)))⟩,
 ⟨(some 20), none, .plain (.mov (.tmp 122))⟩])
 (.both (.seq [⟨(some 123), none, .plain (.mov (.tmp 18))⟩,
 ⟨(some 124), none, .plain (.mov (.tmp 19))⟩,
 ⟨(some 125), none, .plain (.bin .lss (.tmp 123) (.tmp 124))⟩])
 (.cond (.tmp 125)
 (.both (.seq [⟨(some 126), none, .plain (.mov (.tmp 18))⟩,
 ⟨(some 127), none, .plain (.mov (.tmp 20))⟩,
 ⟨(some 128), none, .plain (.bin .geq (.tmp 126) (.tmp 127))⟩,
 ⟨(some 10), none, .plain (.mov (.tmp 128))⟩])
 (.both (.seq [⟨(some 129), none, .plain (.mov (.tmp 0))⟩,
 ⟨(some 130), none, .plain (.mov (.tmp 1))⟩,
 ⟨(some 131), none, .plain (.mov (.tmp 16))⟩,
 ⟨(some 132), none, .plain (.mov (.tmp 3))⟩,
 ⟨(some 133), none, .plain (.mov (.tmp 4))⟩,
 ⟨(some 134), none, .call 91 [(.tmp 129), (.tmp 130), (.tmp 131), (.tmp 132), (.tmp 133)]⟩])
 (.seq [⟨(some 135), none, .plain (.mov (.tmp 16))⟩,
 ⟨(some 136), none, .plain (.bin .add (.tmp 135) (.const (.int .i64 1)))⟩,
 ⟨(some 1), none, .plain (.mov (.tmp 136))⟩])))
 (.both (.seq [⟨(some 137), none, .plain (.mov (.tmp 19))⟩,
 ⟨(some 138), none, .plain (.mov (.tmp 20))⟩,
 ⟨(some 139), none, .plain (.bin .geq (.tmp 137) (.tmp 138))⟩,
 ⟨(some 10), none, .plain (.mov (.tmp 139))⟩])
 (.both (.seq [⟨(some 140), none, .plain (.mov (.tmp 0))⟩,
 ⟨(some 141), none, .plain (.mov (.tmp 16))⟩,
 ⟨(some 142), none, .plain (.bin .add (.tmp 141) (.const (.int .i64 1)))⟩,
 ⟨(some 143), none, .plain (.mov (.tmp 2))⟩,
 ⟨(some 144), none, .plain (.mov (.tmp 3))⟩,
 ⟨(some 145), none, .plain (.mov (.tmp 4))⟩,
 ⟨(some 146), none, .call 91 [(.tmp 140), (.tmp 142), (.tmp 143), (.tmp 144), (.tmp 145)]⟩])
 (.seq [⟨(some 147), none, .plain (.mov (.tmp 16))⟩,
 ⟨(some 2), none, .plain (.mov (.tmp 147))⟩]))))))))))))))))))))))⟩
/-- math/bits.Len -/
def a92 : AFunc := ⟨1, [.tmp 2],
 (.both (.seq [⟨(some 2), none, .plain (.mov (.const (.int .i64 0)))⟩])
 (.both (.cond (.const (.bool false))
 (.both (.seq [⟨(some 3), none, .plain (.mov (.tmp 0))⟩,
 ⟨(some 4), none, .plain (.conv (.int .u32) (.tmp 3))⟩,
 ⟨(some 5), none, .call 105 [(.tmp 4)]⟩,
 ⟨(some 2), none, .plain (.mov (.tmp 5))⟩])
 .ret)
 .skip)
 (.both (.seq [⟨(some 6), none, .plain (.mov (.tmp 0))⟩,
 ⟨(some 7), none, .call 106 [(.tmp 6)]⟩,
 ⟨(some 2), none, .plain (.mov (.tmp 7))⟩])
 .ret)))⟩
/-- cmp.isNaN[int64] -/
def a93 : AFunc := ⟨1, [.tmp 2],
 (.both (.seq [⟨(some 2), none, .plain (.mov (.const (.bool false)))⟩])
 (.both (.seq [⟨(some 3), none, .plain (.mov (.tmp 0))⟩,
 ⟨(some 4), none, .plain (.mov (.tmp 0))⟩,
 ⟨(some 5), none, .plain (.bin .neq (.tmp 3) (.tmp 4))⟩,
 ⟨(some 2), none, .plain (.mov (.tmp 5))⟩])
 .ret))⟩
/-- (fettle/extent.Set).All$1 -/
def a94 : AFunc := ⟨2, [],
 (.both (.seq [⟨(some 5), none, .plain (.load none (.tmp 1))⟩,
 ⟨(some 6), none, .call 62 [(.tmp 5)]⟩,
 ⟨(some 7), none, .plain (.len .sl (.tmp 6))⟩,
 ⟨(some 8), none, .plain (.mov (.const (.int .i64 0)))⟩])
 (.block 0 (.loop (.both (.seq [⟨(some 9), none, .plain (.bin .lss (.tmp 8) (.tmp 7))⟩])
 (.both (.cond (.tmp 9)
 .skip
 (.exit 0))
 (.both (.block 1 (.both (.seq [⟨(some 10), none, .plain (.mov (.tmp 8))⟩,
 ⟨(some 11), none, .plain (.iaddr none 2 (.tmp 6) (.tmp 8))⟩,
 ⟨(some 12), none, .plain (.load (some 2) (.tmp 11))⟩,
 ⟨(some 4), none, .plain (.alloc [(.int .i64 0), (.int .i64 0)])⟩,
 ⟨(some 3), none, .plain (.mov (.tmp 10))⟩,
 ⟨none, none, .plain (.store 2 (.tmp 4) (.tmp 12))⟩])
 (.both (.seq [⟨(some 13), none, .plain (.mov (.tmp 0))⟩,
 ⟨(some 14), none, .plain (.mov (.tmp 3))⟩,
 ⟨(some 15), none, .plain (.load (some 2) (.tmp 4))⟩,
 ⟨(some 16), none, .callv (.tmp 13) [(.tmp 14), (.tmp 15)]⟩,
 ⟨(some 17), none, .plain (.un .not (.tmp 16))⟩])
 (.cond (.tmp 17)
 .ret
 .skip))))
 (.seq [⟨(some 18), none, .plain (.bin .add (.tmp 8) (.const (.int .i64 1)))⟩,
 ⟨(some 8), none, .plain (.mov (.tmp 18))⟩])))))))⟩
/-- fettle/fettleref03.put -/
def a95 : AFunc := ⟨2, [.tmp 4],
 (.both (.seq [⟨(some 4), none, .plain (.mov (.const (.slice none 0 0)))⟩])
 (.both (.seq [⟨(some 5), none, .plain (.mov (.const (.slice none 0 0)))⟩])
 (.both (.seq [⟨(some 6), none, .plain (.mov (.const (.bool false)))⟩])
 (.both (.both (.seq [⟨(some 7), none, .plain (.mov (.const (.int .i64 0)))⟩])
 (.block 0 (.loop (.both (.both (.seq [⟨(some 8), none, .plain (.mov (.tmp 7))⟩,
 ⟨(some 9), none, .plain (.mov (.tmp 0))⟩,
 ⟨(some 10), none, .plain (.len .sl (.tmp 9))⟩,
 ⟨(some 11), none, .plain (.bin .lss (.tmp 8) (.tmp 10))⟩])
 (.cond (.tmp 11)
 .skip
 (.exit 0)))
 (.both (.block 1 (.both (.both (.seq [⟨(some 14), none, .plain (.mov (.tmp 6))⟩,
 ⟨(some 15), none, .plain (.un .not (.tmp 14))⟩,
 ⟨(some 16), none, .plain (.mov (.tmp 15))⟩,
 ⟨(some 17), (some (16, true)), .plain (.mov (.tmp 0))⟩,
 ⟨(some 18), (some (16, true)), .plain (.mov (.tmp 7))⟩,
 ⟨(some 19), (some (16, true)), .plain (.iaddr none 1 (.tmp 17) (.tmp 18))⟩,
 ⟨(some 20), (some (16, true)), .plain (.load none (.tmp 19))⟩,
 ⟨(some 21), (some (16, true)), .plain (.mov (.tmp 1))⟩,
 ⟨(some 22), (some (16, true)), .plain (.bin .geq (.tmp 20) (.tmp 21))⟩,
 ⟨(some 23), none, .plain (.pick (.tmp 16) (.tmp 22) (.const (.bool false)))⟩])
 (.cond (.tmp 23)
 (.both (.seq [⟨(some 6), none, .plain (.mov (.const (.bool true)))⟩])
 (.both (.seq [⟨(some 24), none, .plain (.mov (.tmp 0))⟩,
 ⟨(some 25), none, .plain (.mov (.tmp 7))⟩,
 ⟨(some 26), none, .plain (.iaddr none 1 (.tmp 24) (.tmp 25))⟩,
 ⟨(some 27), none, .plain (.load none (.tmp 26))⟩,
 ⟨(some 28), none, .plain (.mov (.tmp 1))⟩,
 ⟨(some 29), none, .plain (.bin .gtr (.tmp 27) (.tmp 28))⟩])
 (.cond (.tmp 29)
 (.seq [⟨(some 30), none, .plain (.mov (.tmp 5))⟩,
 ⟨(some 31), none, .plain (.mov (.tmp 1))⟩,
 ⟨(some 32), none, .plain (.buildSlice ⟨1, 8, [(.int .i64 0)]⟩ 1 [(0, (.tmp 31))])⟩,
 ⟨(some 33), none, .plain (.append ⟨1, 8, [(.int .i64 0)]⟩ false (.tmp 30) (.tmp 32))⟩,
 ⟨(some 5), none, .plain (.mov (.tmp 33))⟩])
 .skip)))
 .skip))
 (.seq [⟨(some 34), none, .plain (.mov (.tmp 5))⟩,
 ⟨(some 35), none, .plain (.mov (.tmp 0))⟩,
 ⟨(some 36), none, .plain (.mov (.tmp 7))⟩,
 ⟨(some 37), none, .plain (.iaddr none 1 (.tmp 35) (.tmp 36))⟩,
 ⟨(some 38), none, .plain (.load none (.tmp 37))⟩,
 ⟨(some 39), none, .plain (.buildSlice ⟨1, 8, [(.int .i64 0)]⟩ 1 [(0, (.tmp 38))])⟩,
 ⟨(some 40), none, .plain (.append ⟨1, 8, [(.int .i64 0)]⟩ false (.tmp 34) (.tmp 39))⟩,
 ⟨(some 5), none, .plain (.mov (.tmp 40))⟩])))
 (.seq [⟨(some 12), none, .plain (.mov (.tmp 7))⟩,
 ⟨(some 13), none, .plain (.bin .add (.tmp 12) (.const (.int .i64 1)))⟩,
 ⟨(some 7), none, .plain (.mov (.tmp 13))⟩]))))))
 (.both (.both (.seq [⟨(some 41), none, .plain (.mov (.tmp 6))⟩,
 ⟨(some 42), none, .plain (.un .not (.tmp 41))⟩])
 (.cond (.tmp 42)
 (.seq [⟨(some 43), none, .plain (.mov (.tmp 5))⟩,
 ⟨(some 44), none, .plain (.mov (.tmp 1))⟩,
 ⟨(some 45), none, .plain (.buildSlice ⟨1, 8, [(.int .i64 0)]⟩ 1 [(0, (.tmp 44))])⟩,
 ⟨(some 46), none, .plain (.append ⟨1, 8, [(.int .i64 0)]⟩ false (.tmp 43) (.tmp 45))⟩,
 ⟨(some 5), none, .plain (.mov (.tmp 46))⟩])
 .skip))
 (.both (.seq [⟨(some 47), none, .plain (.mov (.tmp 5))⟩,
 ⟨(some 4), none, .plain (.mov (.tmp 47))⟩])
 .ret))))))⟩
/-- fettle/octet.little[uint64] -/
def a96 : AFunc := ⟨3, [.tmp 6, .tmp 7],
 (.both (.seq [⟨(some 6), none, .plain (.mov (.const (.int .u64 0)))⟩,
 ⟨(some 7), none, .plain (.mov (.const (.bool false)))⟩])
 (.both (.seq [⟨(some 8), none, .plain (.mov (.const (.int .u64 0)))⟩])
 (.both (.both (.seq [⟨(some 10), none, .plain (.mov (.tmp 0))⟩,
 ⟨(some 11), none, .plain (.mov (.tmp 1))⟩,
 ⟨(some 12), none, .plain (.mov (.tmp 2))⟩,
 ⟨(some 13), none, .call 90 [(.tmp 10), (.tmp 11), (.tmp 12)]⟩,
 ⟨(some 14), none, .plain (.un .not (.tmp 13))⟩])
 (.cond (.tmp 14)
 (.both (.seq [⟨(some 6), none, .plain (.mov (.const (.int .u64 0)))⟩,
 ⟨(some 7), none, .plain (.mov (.const (.bool false)))⟩])
 .ret)
 .skip))
 (.both (.both (.seq [⟨(some 15), none, .plain (.mov (.tmp 2))⟩,
 ⟨(some 16), none, .plain (.bin .sub (.tmp 15) (.const (.int .i64 1)))⟩,
 ⟨(some 9), none, .plain (.mov (.tmp 16))⟩])
 (.block 0 (.loop (.both (.both (.seq [⟨(some 17), none, .plain (.mov (.tmp 9))⟩,
 ⟨(some 18), none, .plain (.bin .geq (.tmp 17) (.const (.int .i64 0)))⟩])
 (.cond (.tmp 18)
 .skip
 (.exit 0)))
 (.both (.block 1 (.seq [⟨(some 21), none, .plain (.mov (.tmp 8))⟩,
 ⟨(some 22), none, .plain (.bin .shl (.tmp 21) (.const (.int .u64 8)))⟩,
 ⟨(some 23), none, .plain (.mov (.tmp 0))⟩,
 ⟨(some 24), none, .plain (.mov (.tmp 1))⟩,
 ⟨(some 25), none, .plain (.mov (.tmp 9))⟩,
 ⟨(some 26), none, .plain (.bin .add (.tmp 24) (.tmp 25))⟩,
 ⟨(some 27), none, .plain (.iaddr none 1 (.tmp 23) (.tmp 26))⟩,
 ⟨(some 28), none, .plain (.load none (.tmp 27))⟩,
 ⟨(some 29), none, .plain (.conv (.int .u64) (.tmp 28))⟩,
 ⟨(some 30), none, .plain (.bin .or (.tmp 22) (.tmp 29))⟩,
 ⟨(some 8), none, .plain (.mov (.tmp 30))⟩]))
 (.seq [⟨(some 19), none, .plain (.mov (.tmp 9))⟩,
 ⟨(some 20), none, .plain (.bin .sub (.tmp 19) (.const (.int .i64 1)))⟩,
 ⟨(some 9), none, .plain (.mov (.tmp 20))⟩]))))))
 (.both (.seq [⟨(some 31), none, .plain (.mov (.tmp 8))⟩,
 ⟨(some 6), none, .plain (.mov (.tmp 31))⟩,
 ⟨(some 7), none, .plain (.mov (.const (.bool true)))⟩])
 .ret)))))⟩
/-- slices.insertionSortCmpFunc[fettle/api.Ext] -/
def a97 : AFunc := ⟨4, [],
 (.both (.seq [⟨(some 10), none, .plain (.mov (.tmp 1))⟩,
 ⟨(some 11), none, .plain (.bin .add (.tmp 10) (.const (.int .i64 1)))⟩,
 ⟨(some 8), none, .plain (.mov (.tmp 11))⟩])
 (.block 0 (.loop (.both (.both (.seq [⟨(some 12), none, .plain (.mov (.tmp 8))⟩,
 ⟨(some 13), none, .plain (.mov (.tmp 2))⟩,
 ⟨(some 14), none, .plain (.bin .lss (.tmp 12) (.tmp 13))⟩])
 (.cond (.tmp 14)
 .skip
 (.exit 0)))
 (.both (.block 1 (.both (.seq [⟨(some 17), none, .plain (.mov (.tmp 8))⟩,
 ⟨(some 9), none, .plain (.mov (.tmp 17))⟩])
 (.block 2 (.loop (.both (.both (.draw 0 [⟨0, .pure, 0, ⟨(some 18), none, .plain (.mov (.tmp 9))⟩, [], []⟩,
 ⟨1, .pure, 0, ⟨(some 19), none, .plain (.mov (.tmp 1))⟩, [], []⟩,
 ⟨2, .pure, 0, ⟨(some 20), none, .plain (.bin .gtr (.tmp 18) (.tmp 19))⟩, [], []⟩,
 ⟨3, .pure, 0, ⟨(some 21), none, .plain (.mov (.tmp 20))⟩, [], []⟩,
 ⟨4, .pure, 0, ⟨(some 22), (some (21, true)), .plain (.mov (.tmp 3))⟩, [], []⟩,
 ⟨5, .pure, 0, ⟨(some 23), (some (21, true)), .plain (.mov (.tmp 0))⟩, [], []⟩,
 ⟨6, .pure, 0, ⟨(some 24), (some (21, true)), .plain (.mov (.tmp 9))⟩, [], []⟩,
 ⟨7, .pure, 0, ⟨(some 25), (some (21, true)), .plain (.iaddr none 2 (.tmp 23) (.tmp 24))⟩, [], []⟩,
 ⟨8, .read, 0, ⟨(some 26), (some (21, true)), .plain (.load (some 2) (.tmp 25))⟩, [], []⟩,
 ⟨9, .pure, 0, ⟨(some 27), (some (21, true)), .plain (.mov (.tmp 0))⟩, [], []⟩,
 ⟨10, .pure, 0, ⟨(some 28), (some (21, true)), .plain (.mov (.tmp 9))⟩, [], []⟩,
 ⟨11, .pure, 0, ⟨(some 29), (some (21, true)), .plain (.bin .sub (.tmp 28) (.const (.int .i64 1)))⟩, [], []⟩,
 ⟨12, .pure, 0, ⟨(some 30), (some (21, true)), .plain (.iaddr none 2 (.tmp 27) (.tmp 29))⟩, [], []⟩,
 ⟨13, .read, 0, ⟨(some 31), (some (21, true)), .plain (.load (some 2) (.tmp 30))⟩, [], []⟩,
 ⟨14, .chain, 0, ⟨(some 32), (some (21, true)), .callv (.tmp 22) [(.tmp 26), (.tmp 31)]⟩, [], []⟩,
 ⟨15, .pure, 0, ⟨(some 33), (some (21, true)), .plain (.bin .lss (.tmp 32) (.const (.int .i64 0)))⟩, [], []⟩,
 ⟨16, .pure, 0, ⟨(some 34), none, .plain (.pick (.tmp 21) (.tmp 33) (.const (.bool false)))⟩, [], []⟩])
 (.cond (.tmp 34)
 .skip
 (.exit 2)))
 (.both (.block 3 (.draw 0 [⟨0, .pure, 0, ⟨(some 37), none, .plain (.mov (.tmp 0))⟩, [], []⟩,
 ⟨1, .pure, 0, ⟨(some 38), none, .plain (.mov (.tmp 9))⟩, [], []⟩,
 ⟨2, .pure, 0, ⟨(some 39), none, .plain (.mov (.tmp 0))⟩, [], []⟩,
 ⟨3, .pure, 0, ⟨(some 40), none, .plain (.mov (.tmp 9))⟩, [], []⟩,
 ⟨4, .pure, 0, ⟨(some 41), none, .plain (.bin .sub (.tmp 40) (.const (.int .i64 1)))⟩, [], []⟩,
 ⟨5, .pure, 0, ⟨(some 42), none, .plain (.mov (.tmp 0))⟩, [], []⟩,
 ⟨6, .pure, 0, ⟨(some 43), none, .plain (.mov (.tmp 9))⟩, [], []⟩,
 ⟨7, .pure, 0, ⟨(some 44), none, .plain (.bin .sub (.tmp 43) (.const (.int .i64 1)))⟩, [], []⟩,
 ⟨8, .pure, 0, ⟨(some 45), none, .plain (.iaddr none 2 (.tmp 42) (.tmp 44))⟩, [], []⟩,
 ⟨9, .read, 0, ⟨(some 46), none, .plain (.load (some 2) (.tmp 45))⟩, [], []⟩,
 ⟨10, .pure, 0, ⟨(some 47), none, .plain (.mov (.tmp 0))⟩, [], []⟩,
 ⟨11, .pure, 0, ⟨(some 48), none, .plain (.mov (.tmp 9))⟩, [], []⟩,
 ⟨12, .pure, 0, ⟨(some 49), none, .plain (.iaddr none 2 (.tmp 47) (.tmp 48))⟩, [], []⟩,
 ⟨13, .read, 0, ⟨(some 50), none, .plain (.load (some 2) (.tmp 49))⟩, [], []⟩,
 ⟨14, .pure, 0, ⟨(some 51), none, .plain (.iaddr none 2 (.tmp 37) (.tmp 38))⟩, [], []⟩,
 ⟨15, .chain, 0, ⟨none, none, .plain (.store 2 (.tmp 51) (.tmp 46))⟩, [], []⟩,
 ⟨16, .pure, 0, ⟨(some 52), none, .plain (.iaddr none 2 (.tmp 39) (.tmp 41))⟩, [], []⟩,
 ⟨17, .chain, 0, ⟨none, none, .plain (.store 2 (.tmp 52) (.tmp 50))⟩, [], []⟩]))
 (.seq [⟨(some 35), none, .plain (.mov (.tmp 9))⟩,
 ⟨(some 36), none, .plain (.bin .sub (.tmp 35) (.const (.int .i64 1)))⟩,
 ⟨(some 9), none, .plain (.mov (.tmp 36))⟩])))))))
 (.seq [⟨(some 15), none, .plain (.mov (.tmp 8))⟩,
 ⟨(some 16), none, .plain (.bin .add (.tmp 15) (.const (.int .i64 1)))⟩,
 ⟨(some 8), none, .plain (.mov (.tmp 16))⟩]))))))⟩
/-- math/bits.Len32 -/
def a105 : AFunc := ⟨1, [.tmp 2],
 (.both (.seq [⟨(some 2), none, .plain (.mov (.const (.int .i64 0)))⟩])
 (.both (.both (.seq [⟨(some 3), none, .plain (.mov (.tmp 0))⟩,
 ⟨(some 4), none, .plain (.bin .geq (.tmp 3) (.const (.int .u32 65536)))⟩])
 (.cond (.tmp 4)
 (.both (.seq [⟨(some 5), none, .plain (.mov (.tmp 0))⟩,
 ⟨(some 6), none, .plain (.bin .shr (.tmp 5) (.const (.int .u64 16)))⟩,
 ⟨(some 0), none, .plain (.mov (.tmp 6))⟩])
 (.seq [⟨(some 2), none, .plain (.mov (.const (.int .i64 16)))⟩]))
 .skip))
 (.both (.both (.seq [⟨(some 7), none, .plain (.mov (.tmp 0))⟩,
 ⟨(some 8), none, .plain (.bin .geq (.tmp 7) (.const (.int .u32 256)))⟩])
 (.cond (.tmp 8)
 (.both (.seq [⟨(some 9), none, .plain (.mov (.tmp 0))⟩,
 ⟨(some 10), none, .plain (.bin .shr (.tmp 9) (.const (.int .u64 8)))⟩,
 ⟨(some 0), none, .plain (.mov (.tmp 10))⟩])
 (.seq [⟨(some 11), none, .plain (.mov (.tmp 2))⟩,
 ⟨(some 12), none, .plain (.bin .add (.tmp 11) (.const (.int .i64 8)))⟩,
 ⟨(some 2), none, .plain (.mov (.tmp 12))⟩]))
 .skip))
 (.both (.seq [⟨(some 13), none, .plain (.mov (.tmp 2))⟩,
 ⟨(some 14), none, .plain (.mov (.tmp 0))⟩,
 ⟨(some 15), none, .plain (.conv (.int .u8) (.tmp 14))⟩,
 ⟨(some 16), none, .plain (.index .str (.const (.string ⟨#[0, 1, 2, 2, 3, 3, 3, 3, 4, 4, 4, 4, 4, 4, 4, 4, 5, 5, 5, 5, 5, 5, 5, 5, 5, 5, 5, 5, 5, 5, 5, 5, 6, 6, 6, 6, 6, 6, 6, 6, 6, 6, 6, 6, 6, 6, 6, 6, 6, 6, 6, 6, 6, 6, 6, 6, 6, 6, 6, 6, 6, 6, 6, 6, 7, 7, 7, 7, 7, 7, 7, 7, 7, 7, 7, 7, 7, 7, 7, 7, 7, 7, 7, 7, 7, 7, 7, 7, 7, 7, 7, 7, 7, 7, 7, 7, 7, 7, 7, 7, 7, 7, 7, 7, 7, 7, 7, 7, 7, 7, 7, 7, 7, 7, 7, 7, 7, 7, 7, 7, 7, 7, 7, 7, 7, 7, 7, 7, 8, 8, 8, 8, 8, 8, 8, 8, 8, 8, 8, 8, 8, 8, 8, 8, 8, 8, 8, 8, 8, 8, 8, 8, 8, 8, 8, 8, 8, 8, 8, 8, 8, 8, 8, 8, 8, 8, 8, 8, 8, 8, 8, 8, 8, 8, 8, 8, 8, 8, 8, 8, 8, 8, 8, 8, 8, 8, 8, 8, 8, 8, 8, 8, 8, 8, 8, 8, 8, 8, 8, 8, 8, 8, 8, 8, 8, 8, 8, 8, 8, 8, 8, 8, 8, 8, 8, 8, 8, 8, 8, 8, 8, 8, 8, 8, 8, 8, 8, 8, 8, 8, 8, 8, 8, 8, 8, 8, 8, 8, 8, 8, 8, 8, 8, 8, 8, 8, 8, 8, 8, 8, 8, 8, 8, 8, 8, 8]⟩)) (.tmp 15))⟩,
 ⟨(some 17), none, .plain (.conv (.int .i64) (.tmp 16))⟩,
 ⟨(some 18), none, .plain (.bin .add (.tmp 13) (.tmp 17))⟩,
 ⟨(some 2), none, .plain (.mov (.tmp 18))⟩])
 .ret))))⟩
/-- math/bits.Len64 -/
def a106 : AFunc := ⟨1, [.tmp 2],
 (.both (.seq [⟨(some 2), none, .plain (.mov (.const (.int .i64 0)))⟩])
 (.both (.both (.seq [⟨(some 3), none, .plain (.mov (.tmp 0))⟩,
 ⟨(some 4), none, .plain (.bin .geq (.tmp 3) (.const (.int .u64 4294967296)))⟩])
 (.cond (.tmp 4)
 (.both (.seq [⟨(some 5), none, .plain (.mov (.tmp 0))⟩,
 ⟨(some 6), none, .plain (.bin .shr (.tmp 5) (.const (.int .u64 32)))⟩,
 ⟨(some 0), none, .plain (.mov (.tmp 6))⟩])
 (.seq [⟨(some 2), none, .plain (.mov (.const (.int .i64 32)))⟩]))
 .skip))
 (.both (.both (.seq [⟨(some 7), none, .plain (.mov (.tmp 0))⟩,
 ⟨(some 8), none, .plain (.bin .geq (.tmp 7) (.const (.int .u64 65536)))⟩])
 (.cond (.tmp 8)
 (.both (.seq [⟨(some 9), none, .plain (.mov (.tmp 0))⟩,
 ⟨(some 10), none, .plain (.bin .shr (.tmp 9) (.const (.int .u64 16)))⟩,
 ⟨(some 0), none, .plain (.mov (.tmp 10))⟩])
 (.seq [⟨(some 11), none, .plain (.mov (.tmp 2))⟩,
 ⟨(some 12), none, .plain (.bin .add (.tmp 11) (.const (.int .i64 16)))⟩,
 ⟨(some 2), none, .plain (.mov (.tmp 12))⟩]))
 .skip))
 (.both (.both (.seq [⟨(some 13), none, .plain (.mov (.tmp 0))⟩,
 ⟨(some 14), none, .plain (.bin .geq (.tmp 13) (.const (.int .u64 256)))⟩])
 (.cond (.tmp 14)
 (.both (.seq [⟨(some 15), none, .plain (.mov (.tmp 0))⟩,
 ⟨(some 16), none, .plain (.bin .shr (.tmp 15) (.const (.int .u64 8)))⟩,
 ⟨(some 0), none, .plain (.mov (.tmp 16))⟩])
 (.seq [⟨(some 17), none, .plain (.mov (.tmp 2))⟩,
 ⟨(some 18), none, .plain (.bin .add (.tmp 17) (.const (.int .i64 8)))⟩,
 ⟨(some 2), none, .plain (.mov (.tmp 18))⟩]))
 .skip))
 (.both (.seq [⟨(some 19), none, .plain (.mov (.tmp 2))⟩,
 ⟨(some 20), none, .plain (.mov (.tmp 0))⟩,
 ⟨(some 21), none, .plain (.conv (.int .u8) (.tmp 20))⟩,
 ⟨(some 22), none, .plain (.index .str (.const (.string ⟨#[0, 1, 2, 2, 3, 3, 3, 3, 4, 4, 4, 4, 4, 4, 4, 4, 5, 5, 5, 5, 5, 5, 5, 5, 5, 5, 5, 5, 5, 5, 5, 5, 6, 6, 6, 6, 6, 6, 6, 6, 6, 6, 6, 6, 6, 6, 6, 6, 6, 6, 6, 6, 6, 6, 6, 6, 6, 6, 6, 6, 6, 6, 6, 6, 7, 7, 7, 7, 7, 7, 7, 7, 7, 7, 7, 7, 7, 7, 7, 7, 7, 7, 7, 7, 7, 7, 7, 7, 7, 7, 7, 7, 7, 7, 7, 7, 7, 7, 7, 7, 7, 7, 7, 7, 7, 7, 7, 7, 7, 7, 7, 7, 7, 7, 7, 7, 7, 7, 7, 7, 7, 7, 7, 7, 7, 7, 7, 7, 8, 8, 8, 8, 8, 8, 8, 8, 8, 8, 8, 8, 8, 8, 8, 8, 8, 8, 8, 8, 8, 8, 8, 8, 8, 8, 8, 8, 8, 8, 8, 8, 8, 8, 8, 8, 8, 8, 8, 8, 8, 8, 8, 8, 8, 8, 8, 8, 8, 8, 8, 8, 8, 8, 8, 8, 8, 8, 8, 8, 8, 8, 8, 8, 8, 8, 8, 8, 8, 8, 8, 8, 8, 8, 8, 8, 8, 8, 8, 8, 8, 8, 8, 8, 8, 8, 8, 8, 8, 8, 8, 8, 8, 8, 8, 8, 8, 8, 8, 8, 8, 8, 8, 8, 8, 8, 8, 8, 8, 8, 8, 8, 8, 8, 8, 8, 8, 8, 8, 8, 8, 8, 8, 8, 8, 8, 8, 8]⟩)) (.tmp 21))⟩,
 ⟨(some 23), none, .plain (.conv (.int .i64) (.tmp 22))⟩,
 ⟨(some 24), none, .plain (.bin .add (.tmp 19) (.tmp 23))⟩,
 ⟨(some 2), none, .plain (.mov (.tmp 24))⟩])
 .ret)))))⟩
/-- (fettle/fettleref13.Mem).Read -/
def a129 : AFunc := ⟨3, [.tmp 6, .tmp 7],
 (.both (.seq [⟨(some 6), none, .plain (.mov (.const (.slice none 0 0)))⟩,
 ⟨(some 7), none, .plain (.mov (.const (.int .i64 0)))⟩])
 (.both (.both (.seq [⟨(some 9), none, .plain (.mov (.tmp 1))⟩,
 ⟨(some 10), none, .plain (.bin .lss (.tmp 9) (.const (.int .i64 0)))⟩,
 ⟨(some 11), none, .plain (.mov (.tmp 10))⟩,
 ⟨(some 12), (some (11, false)), .plain (.mov (.tmp 2))⟩,
 ⟨(some 13), (some (11, false)), .plain (.bin .lss (.tmp 12) (.const (.int .i64 0)))⟩,
 ⟨(some 14), none, .plain (.pick (.tmp 11) (.const (.bool true)) (.tmp 13))⟩,
 ⟨(some 15), none, .plain (.mov (.tmp 14))⟩,
 ⟨(some 16), (some (15, false)), .plain (.mov (.tmp 1))⟩,
 ⟨(some 17), (some (15, false)), .plain (.mov (.tmp 0))⟩,
 ⟨(some 18), (some (15, false)), .call 130 [(.tmp 17)]⟩,
 ⟨(some 19), (some (15, false)), .plain (.bin .gtr (.tmp 16) (.tmp 18))⟩,
 ⟨(some 20), none, .plain (.pick (.tmp 15) (.const (.bool true)) (.tmp 19))⟩,
 ⟨(some 21), none, .plain (.mov (.tmp 20))⟩,
 ⟨(some 22), (some (21, false)), .plain (.mov (.tmp 2))⟩,
 ⟨(some 23), (some (21, false)), .plain (.mov (.tmp 0))⟩,
 ⟨(some 24), (some (21, false)), .call 130 [(.tmp 23)]⟩,
 ⟨(some 25), (some (21, false)), .plain (.mov (.tmp 1))⟩,
 ⟨(some 26), (some (21, false)), .plain (.bin .sub (.tmp 24) (.tmp 25))⟩,
 ⟨(some 27), (some (21, false)), .plain (.bin .gtr (.tmp 22) (.tmp 26))⟩,
 ⟨(some 28), none, .plain (.pick (.tmp 21) (.const (.bool true)) (.tmp 27))⟩])
 (.cond (.tmp 28)
 (.both (.seq [⟨(some 6), none, .plain (.mov (.const (.slice none 0 0)))⟩,
 ⟨(some 7), none, .plain (.mov (.const (.int .i64 4)))⟩])
 .ret)
 .skip))
 (.both (.seq [⟨(some 8), none, .plain (.mov (.const (.slice none 0 0)))⟩])
 (.both (.seq [⟨(some 29), none, .plain (.mov (.tmp 8))⟩,
 ⟨(some 30), none, .plain (.mov (.tmp 0))⟩,
 ⟨(some 31), none, .plain (.mov (.tmp 1))⟩,
 ⟨(some 32), none, .plain (.mov (.tmp 1))⟩,
 ⟨(some 33), none, .plain (.mov (.tmp 2))⟩,
 ⟨(some 34), none, .plain (.bin .add (.tmp 32) (.tmp 33))⟩,
 ⟨(some 35), none, .plain (.cut (.sl 1) (.tmp 30) (some (.tmp 31)) (some (.tmp 34)) none)⟩,
 ⟨(some 36), none, .plain (.append ⟨1, 1, [(.int .u8 0)]⟩ false (.tmp 29) (.tmp 35))⟩,
 ⟨(some 6), none, .plain (.mov (.tmp 36))⟩,
 ⟨(some 7), none, .plain (.mov (.const (.int .i64 0)))⟩])
 .ret))))⟩
/-- (fettle/fettleref13.Mem).Size -/
def a130 : AFunc := ⟨1, [.tmp 2],
 (.both (.seq [⟨(some 2), none, .plain (.mov (.const (.int .i64 0)))⟩])
 (.both (.seq [⟨(some 3), none, .plain (.mov (.tmp 0))⟩,
 ⟨(some 4), none, .plain (.len .sl (.tmp 3))⟩,
 ⟨(some 2), none, .plain (.mov (.tmp 4))⟩])
 .ret))⟩
def tabL : List (FuncId × AEntry) := [(5, .code a5), (6, .code a6), (7, .code a7), (15, .code a15), (16, .code a16), (17, .code a17), (18, .code a18), (19, .code a19), (20, .code a20), (21, .code a21), (22, .code a22), (23, .code a23), (25, .code a25), (26, .code a26), (27, .code a27), (28, .code a28), (32, .code a32), (38, .code a38), (39, .code a39), (40, .code a40), (41, .code a41), (42, .code a42), (43, .code a43), (44, .code a44), (45, .code a45), (46, .code a46), (47, .code a47), (48, .code a48), (49, .code a49), (50, .code a50), (51, .code a51), (52, .code a52), (56, .code a56), (57, .code a57), (58, .code a58), (61, .code a61), (62, .code a62), (63, .code a63), (64, .code a64), (65, .code a65), (66, .code a66), (67, .code a67), (68, .code a68), (69, .code a69), (70, .code a70), (71, .code a71), (72, .code a72), (75, .code a75), (76, .code a76), (77, .code a77), (78, .code a78), (79, .code a79), (80, .code a80), (81, .code a81), (82, .code a82), (83, .code a83), (84, .code a84), (85, .code a85), (86, .code a86), (87, .code a87), (90, .code a90), (91, .code a91), (92, .code a92), (93, .code a93), (94, .code a94), (95, .code a95), (96, .code a96), (97, .code a97), (105, .code a105), (106, .code a106), (129, .code a129), (130, .code a130)]
def tab : Tr AEntry := (.node none (.node none (.node none (.node (some (.code a7)) (.node (some (.code a15)) (.node none (.node (some (.code a63)) .leaf .leaf) (.node (some (.code a95)) .leaf .leaf)) (.node (some (.code a47)) (.node (some (.code a79)) .leaf .leaf) .leaf)) (.node (some (.code a23)) (.node (some (.code a39)) (.node (some (.code a71)) .leaf .leaf) .leaf) (.node none (.node (some (.code a87)) .leaf .leaf) .leaf))) (.node none (.node (some (.code a19)) (.node none (.node (some (.code a67)) .leaf .leaf) .leaf) (.node (some (.code a51)) (.node (some (.code a83)) .leaf .leaf) .leaf)) (.node (some (.code a27)) (.node (some (.code a43)) (.node (some (.code a75)) .leaf .leaf) .leaf) (.node none (.node (some (.code a91)) .leaf .leaf) .leaf)))) (.node (some (.code a5)) (.node none (.node (some (.code a17)) (.node none (.node (some (.code a65)) (.node (some (.code a129)) .leaf .leaf) .leaf) (.node (some (.code a97)) .leaf .leaf)) (.node (some (.code a49)) (.node (some (.code a81)) .leaf .leaf) .leaf)) (.node (some (.code a25)) (.node (some (.code a41)) .leaf (.node (some (.code a105)) .leaf .leaf)) (.node (some (.code a57)) .leaf .leaf))) (.node none (.node (some (.code a21)) (.node none (.node (some (.code a69)) .leaf .leaf) .leaf) (.node none (.node (some (.code a85)) .leaf .leaf) .leaf)) (.node none (.node (some (.code a45)) (.node (some (.code a77)) .leaf .leaf) .leaf) (.node (some (.code a61)) (.node (some (.code a93)) .leaf .leaf) .leaf))))) (.node none (.node none (.node none (.node (some (.code a16)) (.node (some (.code a32)) (.node (some (.code a64)) .leaf .leaf) (.node (some (.code a96)) .leaf .leaf)) (.node (some (.code a48)) (.node (some (.code a80)) .leaf .leaf) .leaf)) (.node none (.node (some (.code a40)) (.node (some (.code a72)) .leaf .leaf) .leaf) (.node (some (.code a56)) .leaf .leaf))) (.node none (.node (some (.code a20)) (.node none (.node (some (.code a68)) .leaf .leaf) .leaf) (.node (some (.code a52)) (.node (some (.code a84)) .leaf .leaf) .leaf)) (.node (some (.code a28)) (.node (some (.code a44)) (.node (some (.code a76)) .leaf .leaf) .leaf) (.node none (.node (some (.code a92)) .leaf .leaf) .leaf)))) (.node (some (.code a6)) (.node none (.node (some (.code a18)) (.node none (.node (some (.code a66)) (.node (some (.code a130)) .leaf .leaf) .leaf) .leaf) (.node (some (.code a50)) (.node (some (.code a82)) .leaf .leaf) .leaf)) (.node (some (.code a26)) (.node (some (.code a42)) .leaf (.node (some (.code a106)) .leaf .leaf)) (.node (some (.code a58)) (.node (some (.code a90)) .leaf .leaf) .leaf))) (.node none (.node (some (.code a22)) (.node (some (.code a38)) (.node (some (.code a70)) .leaf .leaf) .leaf) (.node none (.node (some (.code a86)) .leaf .leaf) .leaf)) (.node none (.node (some (.code a46)) (.node (some (.code a78)) .leaf .leaf) .leaf) (.node (some (.code a62)) (.node (some (.code a94)) .leaf .leaf) .leaf))))))
theorem ok5 : callOk Try.prog 5 = true ∧ compF Try.prog 5 = some a5 := ⟨by kernel_rfl, by kernel_rfl⟩
theorem ok6 : callOk Try.prog 6 = true ∧ compF Try.prog 6 = some a6 := ⟨by kernel_rfl, by kernel_rfl⟩
theorem ok7 : callOk Try.prog 7 = true ∧ compF Try.prog 7 = some a7 := ⟨by kernel_rfl, by kernel_rfl⟩
theorem ok15 : callOk Try.prog 15 = true ∧ compF Try.prog 15 = some a15 := ⟨by kernel_rfl, by kernel_rfl⟩
theorem ok16 : callOk Try.prog 16 = true ∧ compF Try.prog 16 = some a16 := ⟨by kernel_rfl, by kernel_rfl⟩
theorem ok17 : callOk Try.prog 17 = true ∧ compF Try.prog 17 = some a17 := ⟨by kernel_rfl, by kernel_rfl⟩
theorem ok18 : callOk Try.prog 18 = true ∧ compF Try.prog 18 = some a18 := ⟨by kernel_rfl, by kernel_rfl⟩
theorem ok19 : callOk Try.prog 19 = true ∧ compF Try.prog 19 = some a19 := ⟨by kernel_rfl, by kernel_rfl⟩
theorem ok20 : callOk Try.prog 20 = true ∧ compF Try.prog 20 = some a20 := ⟨by kernel_rfl, by kernel_rfl⟩
theorem ok21 : callOk Try.prog 21 = true ∧ compF Try.prog 21 = some a21 := ⟨by kernel_rfl, by kernel_rfl⟩
theorem ok22 : callOk Try.prog 22 = true ∧ compF Try.prog 22 = some a22 := ⟨by kernel_rfl, by kernel_rfl⟩
theorem ok23 : callOk Try.prog 23 = true ∧ compF Try.prog 23 = some a23 := ⟨by kernel_rfl, by kernel_rfl⟩
theorem ok25 : callOk Try.prog 25 = true ∧ compF Try.prog 25 = some a25 := ⟨by kernel_rfl, by kernel_rfl⟩
theorem ok26 : callOk Try.prog 26 = true ∧ compF Try.prog 26 = some a26 := ⟨by kernel_rfl, by kernel_rfl⟩
theorem ok27 : callOk Try.prog 27 = true ∧ compF Try.prog 27 = some a27 := ⟨by kernel_rfl, by kernel_rfl⟩
theorem ok28 : callOk Try.prog 28 = true ∧ compF Try.prog 28 = some a28 := ⟨by kernel_rfl, by kernel_rfl⟩
theorem ok32 : callOk Try.prog 32 = true ∧ compF Try.prog 32 = some a32 := ⟨by kernel_rfl, by kernel_rfl⟩
theorem ok38 : callOk Try.prog 38 = true ∧ compF Try.prog 38 = some a38 := ⟨by kernel_rfl, by kernel_rfl⟩
theorem ok39 : callOk Try.prog 39 = true ∧ compF Try.prog 39 = some a39 := ⟨by kernel_rfl, by kernel_rfl⟩
theorem ok40 : callOk Try.prog 40 = true ∧ compF Try.prog 40 = some a40 := ⟨by kernel_rfl, by kernel_rfl⟩
theorem ok41 : callOk Try.prog 41 = true ∧ compF Try.prog 41 = some a41 := ⟨by kernel_rfl, by kernel_rfl⟩
theorem ok42 : callOk Try.prog 42 = true ∧ compF Try.prog 42 = some a42 := ⟨by kernel_rfl, by kernel_rfl⟩
theorem ok43 : callOk Try.prog 43 = true ∧ compF Try.prog 43 = some a43 := ⟨by kernel_rfl, by kernel_rfl⟩
theorem ok44 : callOk Try.prog 44 = true ∧ compF Try.prog 44 = some a44 := ⟨by kernel_rfl, by kernel_rfl⟩
theorem ok45 : callOk Try.prog 45 = true ∧ compF Try.prog 45 = some a45 := ⟨by kernel_rfl, by kernel_rfl⟩
theorem ok46 : callOk Try.prog 46 = true ∧ compF Try.prog 46 = some a46 := ⟨by kernel_rfl, by kernel_rfl⟩
theorem ok47 : callOk Try.prog 47 = true ∧ compF Try.prog 47 = some a47 := ⟨by kernel_rfl, by kernel_rfl⟩
theorem ok48 : callOk Try.prog 48 = true ∧ compF Try.prog 48 = some a48 := ⟨by kernel_rfl, by kernel_rfl⟩
theorem ok49 : callOk Try.prog 49 = true ∧ compF Try.prog 49 = some a49 := ⟨by kernel_rfl, by kernel_rfl⟩
theorem ok50 : callOk Try.prog 50 = true ∧ compF Try.prog 50 = some a50 := ⟨by kernel_rfl, by kernel_rfl⟩
theorem ok51 : callOk Try.prog 51 = true ∧ compF Try.prog 51 = some a51 := ⟨by kernel_rfl, by kernel_rfl⟩
theorem ok52 : callOk Try.prog 52 = true ∧ compF Try.prog 52 = some a52 := ⟨by kernel_rfl, by kernel_rfl⟩
theorem ok56 : callOk Try.prog 56 = true ∧ compF Try.prog 56 = some a56 := ⟨by kernel_rfl, by kernel_rfl⟩
theorem ok57 : callOk Try.prog 57 = true ∧ compF Try.prog 57 = some a57 := ⟨by kernel_rfl, by kernel_rfl⟩
theorem ok58 : callOk Try.prog 58 = true ∧ compF Try.prog 58 = some a58 := ⟨by kernel_rfl, by kernel_rfl⟩
theorem ok61 : callOk Try.prog 61 = true ∧ compF Try.prog 61 = some a61 := ⟨by kernel_rfl, by kernel_rfl⟩
theorem ok62 : callOk Try.prog 62 = true ∧ compF Try.prog 62 = some a62 := ⟨by kernel_rfl, by kernel_rfl⟩
theorem ok63 : callOk Try.prog 63 = true ∧ compF Try.prog 63 = some a63 := ⟨by kernel_rfl, by kernel_rfl⟩
theorem ok64 : callOk Try.prog 64 = true ∧ compF Try.prog 64 = some a64 := ⟨by kernel_rfl, by kernel_rfl⟩
theorem ok65 : callOk Try.prog 65 = true ∧ compF Try.prog 65 = some a65 := ⟨by kernel_rfl, by kernel_rfl⟩
theorem ok66 : callOk Try.prog 66 = true ∧ compF Try.prog 66 = some a66 := ⟨by kernel_rfl, by kernel_rfl⟩
theorem ok67 : callOk Try.prog 67 = true ∧ compF Try.prog 67 = some a67 := ⟨by kernel_rfl, by kernel_rfl⟩
theorem ok68 : callOk Try.prog 68 = true ∧ compF Try.prog 68 = some a68 := ⟨by kernel_rfl, by kernel_rfl⟩
theorem ok69 : callOk Try.prog 69 = true ∧ compF Try.prog 69 = some a69 := ⟨by kernel_rfl, by kernel_rfl⟩
theorem ok70 : callOk Try.prog 70 = true ∧ compF Try.prog 70 = some a70 := ⟨by kernel_rfl, by kernel_rfl⟩
theorem ok71 : callOk Try.prog 71 = true ∧ compF Try.prog 71 = some a71 := ⟨by kernel_rfl, by kernel_rfl⟩
theorem ok72 : callOk Try.prog 72 = true ∧ compF Try.prog 72 = some a72 := ⟨by kernel_rfl, by kernel_rfl⟩
theorem ok75 : callOk Try.prog 75 = true ∧ compF Try.prog 75 = some a75 := ⟨by kernel_rfl, by kernel_rfl⟩
theorem ok76 : callOk Try.prog 76 = true ∧ compF Try.prog 76 = some a76 := ⟨by kernel_rfl, by kernel_rfl⟩
theorem ok77 : callOk Try.prog 77 = true ∧ compF Try.prog 77 = some a77 := ⟨by kernel_rfl, by kernel_rfl⟩
theorem ok78 : callOk Try.prog 78 = true ∧ compF Try.prog 78 = some a78 := ⟨by kernel_rfl, by kernel_rfl⟩
theorem ok79 : callOk Try.prog 79 = true ∧ compF Try.prog 79 = some a79 := ⟨by kernel_rfl, by kernel_rfl⟩
theorem ok80 : callOk Try.prog 80 = true ∧ compF Try.prog 80 = some a80 := ⟨by kernel_rfl, by kernel_rfl⟩
theorem ok81 : callOk Try.prog 81 = true ∧ compF Try.prog 81 = some a81 := ⟨by kernel_rfl, by kernel_rfl⟩
theorem ok82 : callOk Try.prog 82 = true ∧ compF Try.prog 82 = some a82 := ⟨by kernel_rfl, by kernel_rfl⟩
theorem ok83 : callOk Try.prog 83 = true ∧ compF Try.prog 83 = some a83 := ⟨by kernel_rfl, by kernel_rfl⟩
theorem ok84 : callOk Try.prog 84 = true ∧ compF Try.prog 84 = some a84 := ⟨by kernel_rfl, by kernel_rfl⟩
theorem ok85 : callOk Try.prog 85 = true ∧ compF Try.prog 85 = some a85 := ⟨by kernel_rfl, by kernel_rfl⟩
theorem ok86 : callOk Try.prog 86 = true ∧ compF Try.prog 86 = some a86 := ⟨by kernel_rfl, by kernel_rfl⟩
theorem ok87 : callOk Try.prog 87 = true ∧ compF Try.prog 87 = some a87 := ⟨by kernel_rfl, by kernel_rfl⟩
theorem ok90 : callOk Try.prog 90 = true ∧ compF Try.prog 90 = some a90 := ⟨by kernel_rfl, by kernel_rfl⟩
theorem ok91 : callOk Try.prog 91 = true ∧ compF Try.prog 91 = some a91 := ⟨by kernel_rfl, by kernel_rfl⟩
theorem ok92 : callOk Try.prog 92 = true ∧ compF Try.prog 92 = some a92 := ⟨by kernel_rfl, by kernel_rfl⟩
theorem ok93 : callOk Try.prog 93 = true ∧ compF Try.prog 93 = some a93 := ⟨by kernel_rfl, by kernel_rfl⟩
theorem ok94 : callOk Try.prog 94 = true ∧ compF Try.prog 94 = some a94 := ⟨by kernel_rfl, by kernel_rfl⟩
theorem ok95 : callOk Try.prog 95 = true ∧ compF Try.prog 95 = some a95 := ⟨by kernel_rfl, by kernel_rfl⟩
theorem ok96 : callOk Try.prog 96 = true ∧ compF Try.prog 96 = some a96 := ⟨by kernel_rfl, by kernel_rfl⟩
theorem ok97 : callOk Try.prog 97 = true ∧ compF Try.prog 97 = some a97 := ⟨by kernel_rfl, by kernel_rfl⟩
theorem ok105 : callOk Try.prog 105 = true ∧ compF Try.prog 105 = some a105 := ⟨by kernel_rfl, by kernel_rfl⟩
theorem ok106 : callOk Try.prog 106 = true ∧ compF Try.prog 106 = some a106 := ⟨by kernel_rfl, by kernel_rfl⟩
theorem ok129 : callOk Try.prog 129 = true ∧ compF Try.prog 129 = some a129 := ⟨by kernel_rfl, by kernel_rfl⟩
theorem ok130 : callOk Try.prog 130 = true ∧ compF Try.prog 130 = some a130 := ⟨by kernel_rfl, by kernel_rfl⟩
theorem tabOk : TabSound Try.prog (fun f => tab.get f) := tr_sound (l := tabL) (by kernel_rfl) ⟨ok5, ok6, ok7, ok15, ok16, ok17, ok18, ok19, ok20, ok21, ok22, ok23, ok25, ok26, ok27, ok28, ok32, ok38, ok39, ok40, ok41, ok42, ok43, ok44, ok45, ok46, ok47, ok48, ok49, ok50, ok51, ok52, ok56, ok57, ok58, ok61, ok62, ok63, ok64, ok65, ok66, ok67, ok68, ok69, ok70, ok71, ok72, ok75, ok76, ok77, ok78, ok79, ok80, ok81, ok82, ok83, ok84, ok85, ok86, ok87, ok90, ok91, ok92, ok93, ok94, ok95, ok96, ok97, ok105, ok106, ok129, ok130, trivial⟩
theorem follows : Try.prog.follows .mixedOrders = true := by kernel_rfl
end Go.Proofs.Ytoehafeeoggpkaa.AMC
