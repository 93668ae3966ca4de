import Derived.Test.YtejlmlfncbcbbaaProg
import Derived.Test.YtejlmlfncbcbbaaAM28
set_option maxRecDepth 100000
/-! The compiled functions; written by a program. -/
namespace Go.Proofs.Ytejlmlfncbcbbaa.AMC
open Go Go.AM Go.Proofs
/-- fettle/fettlelaw15.PartsFinds -/
def a3 : AFunc := ⟨2, [.tmp 4],
  (.both (.seq [⟨(some 4), none, .plain (.mov (.const (.bool false)))⟩])
  (.both (.both (.seq [⟨(some 14), none, .plain (.mov (.tmp 0))⟩,
      ⟨(some 15), none, .plain (.len .sl (.tmp 14))⟩,
      ⟨(some 16), none, .plain (.bin .gtr (.tmp 15) (.const (.int .i64 50)))⟩])
   (.cond (.tmp 16)
    (.both (.seq [⟨(some 17), none, .call 4 []⟩,
       ⟨(some 4), none, .plain (.mov (.tmp 17))⟩])
    .ret)
    .skip))
  (.both (.seq [⟨(some 19), none, .plain (.mov (.tmp 0))⟩,
     ⟨(some 20), none, .plain (.mov (.tmp 1))⟩,
     ⟨(some 21), none, .call 5 [(.tmp 19), (.tmp 20)]⟩,
     ⟨(some 18), none, .plain (.mov (.tmp 21))⟩,
     ⟨(some 22), none, .plain (.extract (.tmp 18) 0)⟩,
     ⟨(some 23), none, .plain (.extract (.tmp 18) 1)⟩,
     ⟨(some 5), none, .plain (.alloc [(.string ⟨#[]⟩), (.int .i64 0), (.int .i64 0), (.slice none 0 0)])⟩,
     ⟨none, none, .plain (.store 4 (.tmp 5) (.tmp 22))⟩,
     ⟨(some 6), none, .plain (.mov (.tmp 23))⟩])
  (.both (.seq [⟨(some 25), none, .call 6 [(.const .nilIface)]⟩,
     ⟨(some 24), none, .plain (.mov (.tmp 25))⟩,
     ⟨(some 26), none, .plain (.extract (.tmp 24) 0)⟩,
     ⟨(some 27), none, .plain (.extract (.tmp 24) 1)⟩,
     ⟨(some 7), none, .plain (.alloc [(.int .i64 0), (.slice none 0 0), (.slice none 0 0), (.slice none 0 0), (.slice none 0 0), (.slice none 0 0), (.int .i64 0), (.int .i64 0), (.bool false), (.int .i64 0), (.int .i64 0), (.int .i64 0), (.int .u8 0), (.int .u8 0), (.int .u8 0), (.int .u8 0), (.int .u8 0), (.int .u8 0), (.int .u8 0), (.int .u8 0), (.int .u8 0), (.int .u8 0), (.int .u8 0), (.int .u8 0), (.int .u8 0), (.int .u8 0), (.int .u8 0), (.int .u8 0), (.slice none 0 0), (.int .i64 0), (.int .i64 0)])⟩,
     ⟨none, none, .plain (.store 31 (.tmp 7) (.tmp 26))⟩,
     ⟨(some 8), none, .plain (.mov (.tmp 27))⟩])
  (.both (.seq [⟨(some 29), none, .plain (.build (.str [(.int .i64 0), (.int .i64 0)] [(0, 1), (1, 1)]) [])⟩,
     ⟨(some 30), none, .call 7 [(.const .nilIface), (.tmp 29)]⟩,
     ⟨(some 28), none, .plain (.mov (.tmp 30))⟩,
     ⟨(some 31), none, .plain (.extract (.tmp 28) 0)⟩,
     ⟨(some 32), none, .plain (.extract (.tmp 28) 1)⟩,
     ⟨(some 9), none, .plain (.mov (.tmp 31))⟩,
     ⟨(some 10), none, .plain (.mov (.tmp 32))⟩])
  (.both (.seq [⟨(some 34), none, .plain (.build (.str [(.string ⟨#[]⟩), (.int .i64 0), (.int .i64 0), (.slice none 0 0)] [(0, 1), (1, 1), (2, 1), (3, 1)]) [])⟩,
     ⟨(some 35), none, .call 8 [(.const .nilIface), (.tmp 34)]⟩,
     ⟨(some 33), none, .plain (.mov (.tmp 35))⟩,
     ⟨(some 36), none, .plain (.extract (.tmp 33) 0)⟩,
     ⟨(some 37), none, .plain (.extract (.tmp 33) 1)⟩,
     ⟨(some 11), none, .plain (.mov (.tmp 36))⟩,
     ⟨(some 12), none, .plain (.mov (.tmp 37))⟩])
  (.both (.both (.seq [⟨(some 38), none, .call 4 []⟩,
      ⟨(some 39), none, .plain (.un .not (.tmp 38))⟩,
      ⟨(some 40), none, .plain (.mov (.tmp 39))⟩,
      ⟨(some 41), (some (40, false)), .plain (.mov (.tmp 8))⟩,
      ⟨(some 42), (some (40, false)), .plain (.bin .neq (.tmp 41) (.const (.int .i64 2)))⟩,
      ⟨(some 43), none, .plain (.pick (.tmp 40) (.const (.bool true)) (.tmp 42))⟩,
      ⟨(some 44), none, .plain (.mov (.tmp 43))⟩,
      ⟨(some 45), (some (44, false)), .plain (.mov (.tmp 10))⟩,
      ⟨(some 46), (some (44, false)), .plain (.bin .neq (.tmp 45) (.const (.int .i64 2)))⟩,
      ⟨(some 47), none, .plain (.pick (.tmp 44) (.const (.bool true)) (.tmp 46))⟩,
      ⟨(some 48), none, .plain (.mov (.tmp 47))⟩,
      ⟨(some 49), (some (48, false)), .plain (.mov (.tmp 12))⟩,
      ⟨(some 50), (some (48, false)), .plain (.bin .neq (.tmp 49) (.const (.int .i64 2)))⟩,
      ⟨(some 51), none, .plain (.pick (.tmp 48) (.const (.bool true)) (.tmp 50))⟩])
   (.cond (.tmp 51)
    (.both (.seq [⟨(some 4), none, .plain (.mov (.const (.bool false)))⟩])
    .ret)
    .skip))
  (.both (.both (.seq [⟨(some 13), none, .plain (.mov (.const (.int .i64 0)))⟩])
   (.block 0 (.loop (.both (.both (.seq [⟨(some 52), none, .plain (.mov (.tmp 13))⟩,
         ⟨(some 53), none, .plain (.mov (.tmp 0))⟩,
         ⟨(some 54), none, .plain (.len .sl (.tmp 53))⟩,
         ⟨(some 55), none, .plain (.bin .lss (.tmp 52) (.tmp 54))⟩])
      (.cond (.tmp 55)
       .skip
       (.exit 0)))
     (.both (.block 1 (.both (.seq [⟨(some 58), none, .plain (.mov (.tmp 0))⟩,
          ⟨(some 59), none, .plain (.mov (.tmp 13))⟩,
          ⟨(some 60), none, .plain (.iaddr none 4 (.tmp 58) (.tmp 59))⟩,
          ⟨(some 61), none, .plain (.faddr 0 (.tmp 60))⟩,
          ⟨(some 62), none, .plain (.load none (.tmp 61))⟩,
          ⟨(some 63), none, .plain (.mov (.tmp 1))⟩,
          ⟨(some 64), none, .plain (.bin .eql (.tmp 62) (.tmp 63))⟩])
       (.cond (.tmp 64)
        (.both (.draw 0 [⟨0, .pure, 0, ⟨(some 65), none, .plain (.mov (.tmp 6))⟩, [], []⟩,
           ⟨1, .pure, 0, ⟨(some 66), none, .plain (.mov (.tmp 65))⟩, [], []⟩,
           ⟨2, .pure, 0, ⟨(some 67), (some (66, true)), .plain (.faddr 0 (.tmp 5))⟩, [], []⟩,
           ⟨3, .read, 0, ⟨(some 68), (some (66, true)), .plain (.load none (.tmp 67))⟩, [], []⟩,
           ⟨4, .pure, 0, ⟨(some 69), (some (66, true)), .plain (.mov (.tmp 1))⟩, [], []⟩,
           ⟨5, .pure, 0, ⟨(some 70), (some (66, true)), .plain (.bin .eql (.tmp 68) (.tmp 69))⟩, [], []⟩,
           ⟨6, .pure, 0, ⟨(some 71), none, .plain (.pick (.tmp 66) (.tmp 70) (.const (.bool false)))⟩, [], []⟩,
           ⟨7, .pure, 0, ⟨(some 72), none, .plain (.mov (.tmp 71))⟩, [], []⟩,
           ⟨8, .pure, 0, ⟨(some 73), (some (72, true)), .plain (.faddr 2 (.tmp 5))⟩, [], []⟩,
           ⟨9, .read, 0, ⟨(some 74), (some (72, true)), .plain (.load none (.tmp 73))⟩, [], []⟩,
           ⟨10, .pure, 0, ⟨(some 75), (some (72, true)), .plain (.mov (.tmp 0))⟩, [], []⟩,
           ⟨11, .pure, 0, ⟨(some 76), (some (72, true)), .plain (.mov (.tmp 13))⟩, [], []⟩,
           ⟨12, .pure, 0, ⟨(some 77), (some (72, true)), .plain (.iaddr none 4 (.tmp 75) (.tmp 76))⟩, [], []⟩,
           ⟨13, .pure, 0, ⟨(some 78), (some (72, true)), .plain (.faddr 2 (.tmp 77))⟩, [], []⟩,
           ⟨14, .read, 0, ⟨(some 79), (some (72, true)), .plain (.load none (.tmp 78))⟩, [], []⟩,
           ⟨15, .pure, 0, ⟨(some 80), (some (72, true)), .plain (.bin .eql (.tmp 74) (.tmp 79))⟩, [], []⟩,
           ⟨16, .pure, 0, ⟨(some 81), none, .plain (.pick (.tmp 72) (.tmp 80) (.const (.bool false)))⟩, [], []⟩,
           ⟨17, .pure, 0, ⟨(some 82), none, .plain (.mov (.tmp 81))⟩, [], []⟩,
           ⟨18, .pure, 0, ⟨(some 83), (some (82, true)), .plain (.faddr 1 (.tmp 5))⟩, [], []⟩,
           ⟨19, .read, 0, ⟨(some 84), (some (82, true)), .plain (.load none (.tmp 83))⟩, [], []⟩,
           ⟨20, .pure, 0, ⟨(some 85), (some (82, true)), .plain (.mov (.tmp 0))⟩, [], []⟩,
           ⟨21, .pure, 0, ⟨(some 86), (some (82, true)), .plain (.mov (.tmp 13))⟩, [], []⟩,
           ⟨22, .pure, 0, ⟨(some 87), (some (82, true)), .plain (.iaddr none 4 (.tmp 85) (.tmp 86))⟩, [], []⟩,
           ⟨23, .pure, 0, ⟨(some 88), (some (82, true)), .plain (.faddr 1 (.tmp 87))⟩, [], []⟩,
           ⟨24, .read, 0, ⟨(some 89), (some (82, true)), .plain (.load none (.tmp 88))⟩, [], []⟩,
           ⟨25, .pure, 0, ⟨(some 90), (some (82, true)), .plain (.bin .eql (.tmp 84) (.tmp 89))⟩, [], []⟩,
           ⟨26, .pure, 0, ⟨(some 91), none, .plain (.pick (.tmp 82) (.tmp 90) (.const (.bool false)))⟩, [], []⟩,
           ⟨27, .pure, 0, ⟨(some 92), none, .plain (.mov (.tmp 91))⟩, [], []⟩,
           ⟨28, .pure, 0, ⟨(some 93), (some (92, true)), .plain (.faddr 3 (.tmp 5))⟩, [], []⟩,
           ⟨29, .read, 0, ⟨(some 94), (some (92, true)), .plain (.load none (.tmp 93))⟩, [], []⟩,
           ⟨30, .pure, 0, ⟨(some 95), (some (92, true)), .plain (.mov (.tmp 0))⟩, [], []⟩,
           ⟨31, .pure, 0, ⟨(some 96), (some (92, true)), .plain (.mov (.tmp 13))⟩, [], []⟩,
           ⟨32, .pure, 0, ⟨(some 97), (some (92, true)), .plain (.iaddr none 4 (.tmp 95) (.tmp 96))⟩, [], []⟩,
           ⟨33, .pure, 0, ⟨(some 98), (some (92, true)), .plain (.faddr 3 (.tmp 97))⟩, [], []⟩,
           ⟨34, .read, 0, ⟨(some 99), (some (92, true)), .plain (.load none (.tmp 98))⟩, [], []⟩,
           ⟨35, .chain, 0, ⟨(some 100), (some (92, true)), .call 9 [(.tmp 94), (.tmp 99)]⟩, [], []⟩,
           ⟨36, .pure, 0, ⟨(some 101), none, .plain (.pick (.tmp 92) (.tmp 100) (.const (.bool false)))⟩, [], []⟩,
           ⟨37, .pure, 0, ⟨(some 4), none, .plain (.mov (.tmp 101))⟩, [], []⟩])
        .ret)
        .skip)))
     (.seq [⟨(some 56), none, .plain (.mov (.tmp 13))⟩,
       ⟨(some 57), none, .plain (.bin .add (.tmp 56) (.const (.int .i64 1)))⟩,
       ⟨(some 13), none, .plain (.mov (.tmp 57))⟩]))))))
  (.both (.seq [⟨(some 102), none, .plain (.mov (.tmp 6))⟩,
     ⟨(some 103), none, .plain (.un .not (.tmp 102))⟩,
     ⟨(some 104), none, .plain (.mov (.tmp 103))⟩,
     ⟨(some 105), (some (104, true)), .plain (.faddr 0 (.tmp 5))⟩,
     ⟨(some 106), (some (104, true)), .plain (.load none (.tmp 105))⟩,
     ⟨(some 107), (some (104, true)), .plain (.bin .eql (.tmp 106) (.const (.string ⟨#[]⟩)))⟩,
     ⟨(some 108), none, .plain (.pick (.tmp 104) (.tmp 107) (.const (.bool false)))⟩,
     ⟨(some 109), none, .plain (.mov (.tmp 108))⟩,
     ⟨(some 110), (some (109, true)), .plain (.faddr 2 (.tmp 5))⟩,
     ⟨(some 111), (some (109, true)), .plain (.load none (.tmp 110))⟩,
     ⟨(some 112), (some (109, true)), .plain (.bin .eql (.tmp 111) (.const (.int .i64 0)))⟩,
     ⟨(some 113), none, .plain (.pick (.tmp 109) (.tmp 112) (.const (.bool false)))⟩,
     ⟨(some 4), none, .plain (.mov (.tmp 113))⟩])
  .ret)))))))))⟩
/-- fettle/fettlelaw15.mapped -/
def a4 : AFunc := ⟨0, [.tmp 0],
  (.both (.seq [⟨(some 0), none, .plain (.mov (.const (.bool false)))⟩])
  (.both (.seq [⟨(some 4), none, .call 11 [(.const (.int .i64 51200))]⟩,
     ⟨(some 5), none, .call 12 [(.const (.int .u64 12)), (.const (.int .u64 8)), (.const (.int .u64 40))]⟩,
     ⟨(some 6), none, .call 11 [(.const (.int .i64 48))]⟩,
     ⟨(some 7), none, .plain (.buildSlice ⟨1, 1, [(.int .u8 0)]⟩ 2 [(0, (.const (.int .u8 85))), (1, (.const (.int .u8 170)))])⟩,
     ⟨(some 8), none, .plain (.append ⟨1, 1, [(.int .u8 0)]⟩ false (.tmp 6) (.tmp 7))⟩,
     ⟨(some 9), none, .plain (.append ⟨1, 1, [(.int .u8 0)]⟩ false (.tmp 5) (.tmp 8))⟩,
     ⟨(some 10), none, .call 10 [(.tmp 4), (.const (.int .i64 446)), (.tmp 9)]⟩,
     ⟨(some 1), none, .plain (.mov (.tmp 10))⟩])
  (.both (.seq [⟨(some 12), none, .plain (.mov (.tmp 1))⟩,
     ⟨(some 13), none, .plain (.iface 57 (.tmp 12))⟩,
     ⟨(some 14), none, .call 6 [(.tmp 13)]⟩,
     ⟨(some 11), none, .plain (.mov (.tmp 14))⟩,
     ⟨(some 15), none, .plain (.extract (.tmp 11) 0)⟩,
     ⟨(some 16), none, .plain (.extract (.tmp 11) 1)⟩,
     ⟨(some 2), none, .plain (.alloc [(.int .i64 0), (.slice none 0 0), (.slice none 0 0), (.slice none 0 0), (.slice none 0 0), (.slice none 0 0), (.int .i64 0), (.int .i64 0), (.bool false), (.int .i64 0), (.int .i64 0), (.int .i64 0), (.int .u8 0), (.int .u8 0), (.int .u8 0), (.int .u8 0), (.int .u8 0), (.int .u8 0), (.int .u8 0), (.int .u8 0), (.int .u8 0), (.int .u8 0), (.int .u8 0), (.int .u8 0), (.int .u8 0), (.int .u8 0), (.int .u8 0), (.int .u8 0), (.slice none 0 0), (.int .i64 0), (.int .i64 0)])⟩,
     ⟨none, none, .plain (.store 31 (.tmp 2) (.tmp 15))⟩,
     ⟨(some 3), none, .plain (.mov (.tmp 16))⟩])
  (.both (.draw 1 [⟨0, .pure, 0, ⟨(some 17), none, .plain (.mov (.tmp 3))⟩, [], []⟩,
     ⟨1, .pure, 0, ⟨(some 18), none, .plain (.bin .eql (.tmp 17) (.const (.int .i64 0)))⟩, [], []⟩,
     ⟨2, .pure, 0, ⟨(some 19), none, .plain (.mov (.tmp 18))⟩, [], []⟩,
     ⟨3, .pure, 0, ⟨(some 20), (some (19, true)), .plain (.faddr 0 (.tmp 2))⟩, [], []⟩,
     ⟨4, .read, 0, ⟨(some 21), (some (19, true)), .plain (.load none (.tmp 20))⟩, [], []⟩,
     ⟨5, .pure, 0, ⟨(some 22), (some (19, true)), .plain (.bin .eql (.tmp 21) (.const (.int .i64 1)))⟩, [], []⟩,
     ⟨6, .pure, 0, ⟨(some 23), none, .plain (.pick (.tmp 19) (.tmp 22) (.const (.bool false)))⟩, [], []⟩,
     ⟨7, .pure, 0, ⟨(some 24), none, .plain (.mov (.tmp 23))⟩, [], []⟩,
     ⟨8, .pure, 0, ⟨(some 25), (some (24, true)), .plain (.faddr 3 (.tmp 2))⟩, [], []⟩,
     ⟨9, .read, 0, ⟨(some 26), (some (24, true)), .plain (.load none (.tmp 25))⟩, [], []⟩,
     ⟨10, .pure, 0, ⟨(some 27), (some (24, true)), .plain (.build (.str [(.int .i64 0), (.int .i64 0)] [(0, 1), (1, 1)]) [(0, (.const (.int .i64 512))), (1, (.const (.int .i64 4096)))])⟩, [], []⟩,
     ⟨11, .pure, 0, ⟨(some 28), (some (24, true)), .plain (.build (.str [(.int .i64 0), (.int .i64 0)] [(0, 1), (1, 1)]) [(0, (.const (.int .i64 24576))), (1, (.const (.int .i64 51200)))])⟩, [], []⟩,
     ⟨12, .fresh, 0, ⟨(some 29), (some (24, true)), .plain (.buildSlice ⟨2, 16, [(.int .i64 0), (.int .i64 0)]⟩ 2 [(0, (.tmp 27)), (1, (.tmp 28))])⟩, [], []⟩,
     ⟨13, .chain, 0, ⟨(some 30), (some (24, true)), .call 9 [(.tmp 26), (.tmp 29)]⟩, [], []⟩,
     ⟨14, .pure, 0, ⟨(some 31), none, .plain (.pick (.tmp 24) (.tmp 30) (.const (.bool false)))⟩, [], []⟩,
     ⟨15, .pure, 0, ⟨(some 32), none, .plain (.mov (.tmp 31))⟩, [], []⟩,
     ⟨16, .read, 0, ⟨(some 33), (some (32, true)), .plain (.load (some 31) (.tmp 2))⟩, [], []⟩,
     ⟨17, .pure, 0, ⟨(some 34), (some (32, true)), .plain (.faddr 1 (.tmp 2))⟩, [], []⟩,
     ⟨18, .read, 0, ⟨(some 35), (some (32, true)), .plain (.load none (.tmp 34))⟩, [], []⟩,
     ⟨19, .pure, 0, ⟨(some 36), (some (32, true)), .plain (.iaddr none 4 (.tmp 35) (.const (.int .i64 0)))⟩, [], []⟩,
     ⟨20, .read, 0, ⟨(some 37), (some (32, true)), .plain (.load (some 4) (.tmp 36))⟩, [], []⟩,
     ⟨21, .chain, 0, ⟨(some 38), (some (32, true)), .call 13 [(.tmp 33), (.tmp 37), (.const (.int .i64 51200))]⟩, [], []⟩,
     ⟨22, .pure, 0, ⟨(some 39), (some (32, true)), .plain (.bin .eql (.tmp 38) (.const (.int .i64 51200)))⟩, [], []⟩,
     ⟨23, .pure, 0, ⟨(some 40), none, .plain (.pick (.tmp 32) (.tmp 39) (.const (.bool false)))⟩, [], []⟩,
     ⟨24, .pure, 0, ⟨(some 0), none, .plain (.mov (.tmp 40))⟩, [], []⟩])
  .ret))))⟩
/-- fettle/parts.Find -/
def a5 : AFunc := ⟨2, [.cell 4 (some 4), .tmp 5],
  (.both (.seq [⟨(some 4), none, .plain (.alloc [(.string ⟨#[]⟩), (.int .i64 0), (.int .i64 0), (.slice none 0 0)])⟩,
     ⟨(some 5), none, .plain (.mov (.const (.bool false)))⟩])
  (.both (.both (.seq [⟨(some 8), none, .plain (.mov (.tmp 0))⟩,
      ⟨(some 9), none, .plain (.len .sl (.tmp 8))⟩,
      ⟨(some 10), none, .plain (.mov (.const (.int .i64 0)))⟩])
   (.block 0 (.loop (.both (.seq [⟨(some 11), none, .plain (.bin .lss (.tmp 10) (.tmp 9))⟩])
     (.both (.cond (.tmp 11)
       .skip
       (.exit 0))
     (.both (.block 1 (.both (.seq [⟨(some 12), none, .plain (.iaddr none 4 (.tmp 8) (.tmp 10))⟩,
          ⟨(some 13), none, .plain (.load (some 4) (.tmp 12))⟩,
          ⟨(some 7), none, .plain (.alloc [(.string ⟨#[]⟩), (.int .i64 0), (.int .i64 0), (.slice none 0 0)])⟩,
          ⟨none, none, .plain (.store 4 (.tmp 7) (.tmp 13))⟩])
       (.both (.seq [⟨(some 14), none, .plain (.faddr 0 (.tmp 7))⟩,
          ⟨(some 15), none, .plain (.load none (.tmp 14))⟩,
          ⟨(some 16), none, .plain (.mov (.tmp 1))⟩,
          ⟨(some 17), none, .plain (.bin .eql (.tmp 15) (.tmp 16))⟩])
       (.cond (.tmp 17)
        (.both (.seq [⟨(some 18), none, .plain (.load (some 4) (.tmp 7))⟩,
           ⟨none, none, .plain (.store 4 (.tmp 4) (.tmp 18))⟩,
           ⟨(some 5), none, .plain (.mov (.const (.bool true)))⟩])
        .ret)
        .skip))))
     (.seq [⟨(some 19), none, .plain (.bin .add (.tmp 10) (.const (.int .i64 1)))⟩,
       ⟨(some 10), none, .plain (.mov (.tmp 19))⟩])))))))
  (.both (.seq [⟨(some 20), none, .plain (.build (.str [(.string ⟨#[]⟩), (.int .i64 0), (.int .i64 0), (.slice none 0 0)] [(0, 1), (1, 1), (2, 1), (3, 1)]) [])⟩,
     ⟨none, none, .plain (.store 4 (.tmp 4) (.tmp 20))⟩,
     ⟨(some 5), none, .plain (.mov (.const (.bool false)))⟩])
  .ret)))⟩
/-- fettle/parts.Parse -/
def a6 : AFunc := ⟨1, [.cell 2 (some 31), .tmp 3],
  (.both (.seq [⟨(some 2), none, .plain (.alloc [(.int .i64 0), (.slice none 0 0), (.slice none 0 0), (.slice none 0 0), (.slice none 0 0), (.slice none 0 0), (.int .i64 0), (.int .i64 0), (.bool false), (.int .i64 0), (.int .i64 0), (.int .i64 0), (.int .u8 0), (.int .u8 0), (.int .u8 0), (.int .u8 0), (.int .u8 0), (.int .u8 0), (.int .u8 0), (.int .u8 0), (.int .u8 0), (.int .u8 0), (.int .u8 0), (.int .u8 0), (.int .u8 0), (.int .u8 0), (.int .u8 0), (.int .u8 0), (.slice none 0 0), (.int .i64 0), (.int .i64 0)])⟩,
     ⟨(some 3), none, .plain (.mov (.const (.int .i64 0)))⟩])
  (.both (.both (.seq [⟨(some 12), none, .plain (.mov (.tmp 0))⟩,
      ⟨(some 13), none, .plain (.eqN false .iface true (.tmp 12) (.const .nilIface))⟩])
   (.cond (.tmp 13)
    (.both (.seq [⟨(some 14), none, .plain (.build (.str [(.int .i64 0), (.slice none 0 0), (.slice none 0 0), (.slice none 0 0), (.slice none 0 0), (.slice none 0 0), (.int .i64 0), (.int .i64 0), (.bool false), (.int .i64 0), (.int .i64 0), (.int .i64 0), (.int .u8 0), (.int .u8 0), (.int .u8 0), (.int .u8 0), (.int .u8 0), (.int .u8 0), (.int .u8 0), (.int .u8 0), (.int .u8 0), (.int .u8 0), (.int .u8 0), (.int .u8 0), (.int .u8 0), (.int .u8 0), (.int .u8 0), (.int .u8 0), (.slice none 0 0), (.int .i64 0), (.int .i64 0)] [(0, 1), (1, 1), (2, 1), (3, 1), (4, 5), (9, 22)]) [])⟩,
       ⟨none, none, .plain (.store 31 (.tmp 2) (.tmp 14))⟩,
       ⟨(some 3), none, .plain (.mov (.const (.int .i64 2)))⟩])
    .ret)
    .skip))
  (.both (.seq [⟨(some 16), none, .plain (.mov (.tmp 0))⟩,
     ⟨(some 17), none, .call 14 [(.tmp 16)]⟩,
     ⟨(some 15), none, .plain (.mov (.tmp 17))⟩,
     ⟨(some 18), none, .plain (.extract (.tmp 15) 0)⟩,
     ⟨(some 19), none, .plain (.extract (.tmp 15) 1)⟩,
     ⟨(some 4), none, .plain (.alloc [(.slice none 0 0), (.slice none 0 0), (.int .i64 0), (.int .i64 0), (.bool false)])⟩,
     ⟨none, none, .plain (.store 5 (.tmp 4) (.tmp 18))⟩,
     ⟨(some 5), none, .plain (.mov (.tmp 19))⟩])
  (.both (.both (.seq [⟨(some 20), none, .plain (.mov (.tmp 5))⟩,
      ⟨(some 21), none, .plain (.bin .neq (.tmp 20) (.const (.int .i64 0)))⟩])
   (.cond (.tmp 21)
    (.both (.seq [⟨(some 22), none, .plain (.build (.str [(.int .i64 0), (.slice none 0 0), (.slice none 0 0), (.slice none 0 0), (.slice none 0 0), (.slice none 0 0), (.int .i64 0), (.int .i64 0), (.bool false), (.int .i64 0), (.int .i64 0), (.int .i64 0), (.int .u8 0), (.int .u8 0), (.int .u8 0), (.int .u8 0), (.int .u8 0), (.int .u8 0), (.int .u8 0), (.int .u8 0), (.int .u8 0), (.int .u8 0), (.int .u8 0), (.int .u8 0), (.int .u8 0), (.int .u8 0), (.int .u8 0), (.int .u8 0), (.slice none 0 0), (.int .i64 0), (.int .i64 0)] [(0, 1), (1, 1), (2, 1), (3, 1), (4, 5), (9, 22)]) [])⟩,
       ⟨(some 23), none, .plain (.mov (.tmp 5))⟩,
       ⟨none, none, .plain (.store 31 (.tmp 2) (.tmp 22))⟩,
       ⟨(some 3), none, .plain (.mov (.tmp 23))⟩])
    .ret)
    .skip))
  (.both (.draw 1 [⟨0, .pure, 0, ⟨(some 24), none, .plain (.faddr 0 (.tmp 4))⟩, [], []⟩,
     ⟨1, .read, 0, ⟨(some 25), none, .plain (.load none (.tmp 24))⟩, [], []⟩,
     ⟨2, .pure, 0, ⟨(some 26), none, .plain (.faddr 1 (.tmp 4))⟩, [], []⟩,
     ⟨3, .read, 0, ⟨(some 27), none, .plain (.load none (.tmp 26))⟩, [], []⟩,
     ⟨5, .read, 0, ⟨(some 29), none, .plain (.load (some 5) (.tmp 4))⟩, [], []⟩,
     ⟨4, .chain, 0, ⟨(some 28), none, .call 15 [(.tmp 27)]⟩, [5, 1], [0]⟩,
     ⟨6, .pure, 0, ⟨(some 30), none, .plain (.build (.str [(.int .i64 0), (.slice none 0 0), (.slice none 0 0), (.slice none 0 0), (.slice none 0 0), (.slice none 0 0), (.int .i64 0), (.int .i64 0), (.bool false), (.int .i64 0), (.int .i64 0), (.int .i64 0), (.int .u8 0), (.int .u8 0), (.int .u8 0), (.int .u8 0), (.int .u8 0), (.int .u8 0), (.int .u8 0), (.int .u8 0), (.int .u8 0), (.int .u8 0), (.int .u8 0), (.int .u8 0), (.int .u8 0), (.int .u8 0), (.int .u8 0), (.int .u8 0), (.slice none 0 0), (.int .i64 0), (.int .i64 0)] [(0, 1), (1, 1), (2, 1), (3, 1), (4, 5), (9, 22)]) [(0, (.const (.int .i64 1))), (1, (.tmp 25)), (2, (.tmp 28)), (4, (.tmp 29))])⟩, [], []⟩,
     ⟨7, .fresh, 0, ⟨(some 6), none, .plain (.alloc [(.int .i64 0), (.slice none 0 0), (.slice none 0 0), (.slice none 0 0), (.slice none 0 0), (.slice none 0 0), (.int .i64 0), (.int .i64 0), (.bool false), (.int .i64 0), (.int .i64 0), (.int .i64 0), (.int .u8 0), (.int .u8 0), (.int .u8 0), (.int .u8 0), (.int .u8 0), (.int .u8 0), (.int .u8 0), (.int .u8 0), (.int .u8 0), (.int .u8 0), (.int .u8 0), (.int .u8 0), (.int .u8 0), (.int .u8 0), (.int .u8 0), (.int .u8 0), (.slice none 0 0), (.int .i64 0), (.int .i64 0)])⟩, [], []⟩,
     ⟨8, .chain, 0, ⟨none, none, .plain (.store 31 (.tmp 6) (.tmp 30))⟩, [], []⟩])
  (.both (.both (.seq [⟨(some 31), none, .plain (.faddr 4 (.tmp 4))⟩,
      ⟨(some 32), none, .plain (.load none (.tmp 31))⟩])
   (.cond (.tmp 32)
    (.both (.both (.seq [⟨(some 33), none, .plain (.faddr 0 (.tmp 4))⟩,
        ⟨(some 34), none, .plain (.load none (.tmp 33))⟩,
        ⟨(some 35), none, .plain (.len .sl (.tmp 34))⟩,
        ⟨(some 36), none, .plain (.bin .gtr (.tmp 35) (.const (.int .i64 0)))⟩,
        ⟨(some 37), none, .plain (.mov (.tmp 36))⟩,
        ⟨(some 38), (some (37, false)), .plain (.faddr 2 (.tmp 4))⟩,
        ⟨(some 39), (some (37, false)), .plain (.load (some 2) (.tmp 38))⟩,
        ⟨(some 40), (some (37, false)), .plain (.build (.str [(.int .i64 0), (.int .i64 0)] [(0, 1), (1, 1)]) [])⟩,
        ⟨(some 41), (some (37, false)), .plain (.eqA true [(0, .int), (1, .int)] (.tmp 39) (.tmp 40))⟩,
        ⟨(some 42), none, .plain (.pick (.tmp 37) (.const (.bool true)) (.tmp 41))⟩])
     (.cond (.tmp 42)
      (.both (.seq [⟨(some 43), none, .plain (.build (.str [(.int .i64 0), (.slice none 0 0), (.slice none 0 0), (.slice none 0 0), (.slice none 0 0), (.slice none 0 0), (.int .i64 0), (.int .i64 0), (.bool false), (.int .i64 0), (.int .i64 0), (.int .i64 0), (.int .u8 0), (.int .u8 0), (.int .u8 0), (.int .u8 0), (.int .u8 0), (.int .u8 0), (.int .u8 0), (.int .u8 0), (.int .u8 0), (.int .u8 0), (.int .u8 0), (.int .u8 0), (.int .u8 0), (.int .u8 0), (.int .u8 0), (.int .u8 0), (.slice none 0 0), (.int .i64 0), (.int .i64 0)] [(0, 1), (1, 1), (2, 1), (3, 1), (4, 5), (9, 22)]) [])⟩,
         ⟨none, none, .plain (.store 31 (.tmp 2) (.tmp 43))⟩,
         ⟨(some 3), none, .plain (.mov (.const (.int .i64 11)))⟩])
      .ret)
      .skip))
    (.both (.seq [⟨(some 45), none, .plain (.mov (.tmp 0))⟩,
       ⟨(some 46), none, .call 16 [(.tmp 45)]⟩,
       ⟨(some 44), none, .plain (.mov (.tmp 46))⟩,
       ⟨(some 47), none, .plain (.extract (.tmp 44) 0)⟩,
       ⟨(some 48), none, .plain (.extract (.tmp 44) 1)⟩,
       ⟨(some 7), none, .plain (.alloc [(.int .i64 0), (.int .i64 0), (.int .i64 0), (.int .u8 0), (.int .u8 0), (.int .u8 0), (.int .u8 0), (.int .u8 0), (.int .u8 0), (.int .u8 0), (.int .u8 0), (.int .u8 0), (.int .u8 0), (.int .u8 0), (.int .u8 0), (.int .u8 0), (.int .u8 0), (.int .u8 0), (.int .u8 0), (.slice none 0 0), (.int .i64 0), (.int .i64 0)])⟩,
       ⟨none, none, .plain (.store 22 (.tmp 7) (.tmp 47))⟩,
       ⟨(some 8), none, .plain (.mov (.tmp 48))⟩])
    (.both (.both (.seq [⟨(some 49), none, .plain (.mov (.tmp 8))⟩,
        ⟨(some 50), none, .plain (.bin .neq (.tmp 49) (.const (.int .i64 0)))⟩])
     (.cond (.tmp 50)
      (.both (.seq [⟨(some 51), none, .plain (.build (.str [(.int .i64 0), (.slice none 0 0), (.slice none 0 0), (.slice none 0 0), (.slice none 0 0), (.slice none 0 0), (.int .i64 0), (.int .i64 0), (.bool false), (.int .i64 0), (.int .i64 0), (.int .i64 0), (.int .u8 0), (.int .u8 0), (.int .u8 0), (.int .u8 0), (.int .u8 0), (.int .u8 0), (.int .u8 0), (.int .u8 0), (.int .u8 0), (.int .u8 0), (.int .u8 0), (.int .u8 0), (.int .u8 0), (.int .u8 0), (.int .u8 0), (.int .u8 0), (.slice none 0 0), (.int .i64 0), (.int .i64 0)] [(0, 1), (1, 1), (2, 1), (3, 1), (4, 5), (9, 22)]) [])⟩,
         ⟨(some 52), none, .plain (.mov (.tmp 8))⟩,
         ⟨none, none, .plain (.store 31 (.tmp 2) (.tmp 51))⟩,
         ⟨(some 3), none, .plain (.mov (.tmp 52))⟩])
      .ret)
      .skip))
    (.both (.draw 0 [⟨0, .read, 0, ⟨(some 53), none, .plain (.load (some 22) (.tmp 7))⟩, [], []⟩,
       ⟨2, .read, 0, ⟨(some 55), none, .plain (.load (some 22) (.tmp 7))⟩, [], []⟩,
       ⟨3, .pure, 0, ⟨(some 56), none, .plain (.faddr 0 (.tmp 6))⟩, [], []⟩,
       ⟨1, .chain, 0, ⟨(some 54), none, .call 17 [(.tmp 53)]⟩, [2], []⟩,
       ⟨4, .chain, 0, ⟨none, none, .plain (.store 1 (.tmp 56) (.const (.int .i64 2)))⟩, [2], []⟩,
       ⟨5, .pure, 0, ⟨(some 57), none, .plain (.faddr 1 (.tmp 6))⟩, [], []⟩,
       ⟨6, .chain, 0, ⟨none, none, .plain (.store 1 (.tmp 57) (.tmp 54))⟩, [2], []⟩,
       ⟨7, .pure, 0, ⟨(some 58), none, .plain (.faddr 9 (.tmp 6))⟩, [], []⟩,
       ⟨8, .chain, 0, ⟨none, none, .plain (.store 22 (.tmp 58) (.tmp 55))⟩, [], []⟩])
    (.draw 1 [⟨0, .pure, 0, ⟨(some 59), none, .plain (.faddr 2 (.tmp 6))⟩, [], []⟩,
      ⟨1, .read, 0, ⟨(some 60), none, .plain (.load none (.tmp 59))⟩, [], []⟩,
      ⟨2, .read, 0, ⟨(some 61), none, .plain (.load (some 22) (.tmp 7))⟩, [], []⟩,
      ⟨3, .chain, 0, ⟨(some 62), none, .call 19 [(.tmp 61)]⟩, [1], [0]⟩,
      ⟨4, .chain, 0, ⟨(some 63), none, .call 15 [(.tmp 62)]⟩, [1], [0]⟩,
      ⟨5, .fresh, 0, ⟨(some 64), none, .plain (.buildSlice ⟨1, 24, [(.slice none 0 0)]⟩ 2 [(0, (.tmp 60)), (1, (.tmp 63))])⟩, [], []⟩,
      ⟨6, .chain, 0, ⟨(some 65), none, .call 18 [(.tmp 64)]⟩, [], []⟩,
      ⟨7, .pure, 0, ⟨(some 66), none, .plain (.faddr 2 (.tmp 6))⟩, [], []⟩,
      ⟨8, .chain, 0, ⟨none, none, .plain (.store 1 (.tmp 66) (.tmp 65))⟩, [], []⟩])))))
    .skip))
  (.both (.seq [⟨(some 67), none, .plain (.faddr 1 (.tmp 6))⟩,
     ⟨(some 68), none, .plain (.load none (.tmp 67))⟩,
     ⟨(some 69), none, .call 20 [(.tmp 68), (.func 21)]⟩])
  (.both (.seq [⟨(some 70), none, .plain (.faddr 2 (.tmp 6))⟩,
     ⟨(some 71), none, .plain (.load none (.tmp 70))⟩,
     ⟨(some 9), none, .plain (.mov (.tmp 71))⟩])
  (.both (.both (.seq [⟨(some 72), none, .plain (.faddr 1 (.tmp 6))⟩,
      ⟨(some 73), none, .plain (.load none (.tmp 72))⟩,
      ⟨(some 74), none, .plain (.len .sl (.tmp 73))⟩,
      ⟨(some 75), none, .plain (.mov (.const (.int .i64 0)))⟩])
   (.block 0 (.loop (.both (.seq [⟨(some 76), none, .plain (.bin .lss (.tmp 75) (.tmp 74))⟩])
     (.both (.cond (.tmp 76)
       .skip
       (.exit 0))
     (.both (.block 1 (.both (.seq [⟨(some 77), none, .plain (.iaddr none 4 (.tmp 73) (.tmp 75))⟩,
          ⟨(some 78), none, .plain (.load (some 4) (.tmp 77))⟩,
          ⟨(some 11), none, .plain (.alloc [(.int .i64 0), (.int .i64 0), (.int .i64 0), (.int .i64 0)])⟩,
          ⟨none, none, .plain (.store 4 (.tmp 11) (.tmp 78))⟩])
       (.seq [⟨(some 79), none, .plain (.mov (.tmp 9))⟩,
         ⟨(some 80), none, .plain (.faddr 0 (.tmp 11))⟩,
         ⟨(some 81), none, .plain (.load (some 2) (.tmp 80))⟩,
         ⟨(some 82), none, .plain (.buildSlice ⟨2, 16, [(.int .i64 0), (.int .i64 0)]⟩ 1 [(0, (.tmp 81))])⟩,
         ⟨(some 83), none, .call 15 [(.tmp 82)]⟩,
         ⟨(some 84), none, .plain (.buildSlice ⟨1, 24, [(.slice none 0 0)]⟩ 2 [(0, (.tmp 79)), (1, (.tmp 83))])⟩,
         ⟨(some 85), none, .call 18 [(.tmp 84)]⟩,
         ⟨(some 9), none, .plain (.mov (.tmp 85))⟩])))
     (.seq [⟨(some 86), none, .plain (.bin .add (.tmp 75) (.const (.int .i64 1)))⟩,
       ⟨(some 75), none, .plain (.mov (.tmp 86))⟩])))))))
  (.both (.seq [⟨(some 87), none, .plain (.mov (.tmp 0))⟩,
     ⟨(some 88), none, .invoke (.tmp 87) [(17, 99), (57, 105), (75, 107)] []⟩,
     ⟨(some 89), none, .plain (.build (.str [(.int .i64 0), (.int .i64 0)] [(0, 1), (1, 1)]) [(1, (.tmp 88))])⟩,
     ⟨(some 90), none, .plain (.buildSlice ⟨2, 16, [(.int .i64 0), (.int .i64 0)]⟩ 1 [(0, (.tmp 89))])⟩,
     ⟨(some 91), none, .call 15 [(.tmp 90)]⟩,
     ⟨(some 92), none, .plain (.mov (.tmp 9))⟩,
     ⟨(some 93), none, .call 23 [(.tmp 91), (.tmp 92)]⟩,
     ⟨(some 94), none, .plain (.faddr 3 (.tmp 6))⟩,
     ⟨none, none, .plain (.store 1 (.tmp 94) (.tmp 93))⟩])
  (.both (.seq [⟨(some 95), none, .plain (.load (some 31) (.tmp 6))⟩,
     ⟨none, none, .plain (.store 31 (.tmp 2) (.tmp 95))⟩,
     ⟨(some 3), none, .plain (.mov (.const (.int .i64 0)))⟩])
  .ret)))))))))))⟩
/-- fettle/parts.Window -/
def a7 : AFunc := ⟨2, [.tmp 4, .tmp 5],
  (.both (.seq [⟨(some 3), none, .plain (.box (.tmp 1))⟩,
     ⟨(some 4), none, .plain (.mov (.const .nilIface))⟩,
     ⟨(some 5), none, .plain (.mov (.const (.int .i64 0)))⟩])
  (.both (.block 0 (.both (.seq [⟨(some 7), none, .plain (.mov (.tmp 0))⟩,
       ⟨(some 8), none, .plain (.eqN false .iface true (.tmp 7) (.const .nilIface))⟩,
       ⟨(some 6), none, .plain (.mov (.tmp 8))⟩])
    (.cond (.tmp 6)
     (.both (.seq [⟨(some 4), none, .plain (.mov (.const .nilIface))⟩,
        ⟨(some 5), none, .plain (.mov (.const (.int .i64 2)))⟩])
     .ret)
     (.both (.draw 0 [⟨0, .pure, 0, ⟨(some 10), none, .plain (.faddr 0 (.tmp 3))⟩, [], []⟩,
        ⟨1, .read, 0, ⟨(some 11), none, .plain (.load none (.tmp 10))⟩, [], []⟩,
        ⟨2, .pure, 0, ⟨(some 12), none, .plain (.bin .lss (.tmp 11) (.const (.int .i64 0)))⟩, [], []⟩,
        ⟨3, .pure, 0, ⟨(some 13), none, .plain (.mov (.tmp 12))⟩, [], []⟩,
        ⟨4, .pure, 0, ⟨(some 14), (some (13, false)), .plain (.faddr 1 (.tmp 3))⟩, [], []⟩,
        ⟨5, .read, 0, ⟨(some 15), (some (13, false)), .plain (.load none (.tmp 14))⟩, [], []⟩,
        ⟨6, .pure, 0, ⟨(some 16), (some (13, false)), .plain (.faddr 0 (.tmp 3))⟩, [], []⟩,
        ⟨7, .read, 0, ⟨(some 17), (some (13, false)), .plain (.load none (.tmp 16))⟩, [], []⟩,
        ⟨8, .pure, 0, ⟨(some 18), (some (13, false)), .plain (.bin .lss (.tmp 15) (.tmp 17))⟩, [], []⟩,
        ⟨9, .pure, 0, ⟨(some 19), none, .plain (.pick (.tmp 13) (.const (.bool true)) (.tmp 18))⟩, [], []⟩,
        ⟨10, .pure, 0, ⟨(some 20), none, .plain (.mov (.tmp 19))⟩, [], []⟩,
        ⟨11, .pure, 0, ⟨(some 21), (some (20, false)), .plain (.faddr 1 (.tmp 3))⟩, [], []⟩,
        ⟨12, .read, 0, ⟨(some 22), (some (20, false)), .plain (.load none (.tmp 21))⟩, [], []⟩,
        ⟨13, .pure, 0, ⟨(some 23), (some (20, false)), .plain (.mov (.tmp 0))⟩, [], []⟩,
        ⟨14, .chain, 0, ⟨(some 24), (some (20, false)), .invoke (.tmp 23) [(17, 99), (57, 105), (75, 107)] []⟩, [12], []⟩,
        ⟨15, .pure, 0, ⟨(some 25), (some (20, false)), .plain (.bin .gtr (.tmp 22) (.tmp 24))⟩, [], []⟩,
        ⟨16, .pure, 0, ⟨(some 26), none, .plain (.pick (.tmp 20) (.const (.bool true)) (.tmp 25))⟩, [], []⟩,
        ⟨17, .pure, 0, ⟨(some 9), none, .plain (.mov (.tmp 26))⟩, [], []⟩])
     (.cond (.tmp 9)
      (.both (.seq [⟨(some 4), none, .plain (.mov (.const .nilIface))⟩,
         ⟨(some 5), none, .plain (.mov (.const (.int .i64 4)))⟩])
      .ret)
      .skip)))))
  (.both (.seq [⟨(some 27), none, .plain (.mov (.tmp 0))⟩,
     ⟨(some 28), none, .plain (.load (some 2) (.tmp 3))⟩,
     ⟨(some 29), none, .plain (.build (.str [.nilIface, (.int .i64 0), (.int .i64 0)] [(0, 1), (1, 2)]) [(0, (.tmp 27)), (1, (.tmp 28))])⟩,
     ⟨(some 30), none, .plain (.iface 75 (.tmp 29))⟩,
     ⟨(some 4), none, .plain (.mov (.tmp 30))⟩,
     ⟨(some 5), none, .plain (.mov (.const (.int .i64 0)))⟩])
  .ret)))⟩
/-- fettle/parts.Content -/
def a8 : AFunc := ⟨2, [.tmp 4, .tmp 5],
  (.both (.seq [⟨(some 3), none, .plain (.box (.tmp 1))⟩,
     ⟨(some 4), none, .plain (.mov (.const (.slice none 0 0)))⟩,
     ⟨(some 5), none, .plain (.mov (.const (.int .i64 0)))⟩])
  (.both (.both (.seq [⟨(some 12), none, .plain (.mov (.tmp 0))⟩,
      ⟨(some 13), none, .plain (.eqN false .iface true (.tmp 12) (.const .nilIface))⟩])
   (.cond (.tmp 13)
    (.both (.seq [⟨(some 4), none, .plain (.mov (.const (.slice none 0 0)))⟩,
       ⟨(some 5), none, .plain (.mov (.const (.int .i64 2)))⟩])
    .ret)
    .skip))
  (.both (.both (.seq [⟨(some 14), none, .plain (.faddr 2 (.tmp 3))⟩,
      ⟨(some 15), none, .plain (.load none (.tmp 14))⟩,
      ⟨(some 16), none, .plain (.bin .lss (.tmp 15) (.const (.int .i64 0)))⟩,
      ⟨(some 17), none, .plain (.mov (.tmp 16))⟩,
      ⟨(some 18), (some (17, false)), .plain (.faddr 2 (.tmp 3))⟩,
      ⟨(some 19), (some (17, false)), .plain (.load none (.tmp 18))⟩,
      ⟨(some 20), (some (17, false)), .plain (.bin .gtr (.tmp 19) (.const (.int .i64 16777216)))⟩,
      ⟨(some 21), none, .plain (.pick (.tmp 17) (.const (.bool true)) (.tmp 20))⟩])
   (.cond (.tmp 21)
    (.both (.seq [⟨(some 4), none, .plain (.mov (.const (.slice none 0 0)))⟩,
       ⟨(some 5), none, .plain (.mov (.const (.int .i64 4)))⟩])
    .ret)
    .skip))
  (.both (.seq [⟨(some 22), none, .plain (.faddr 2 (.tmp 3))⟩,
     ⟨(some 23), none, .plain (.load none (.tmp 22))⟩,
     ⟨(some 24), none, .plain (.makeSlice ⟨1, 1, [(.int .u8 0)]⟩ (.const (.int .i64 0)) (.tmp 23))⟩,
     ⟨(some 6), none, .plain (.mov (.tmp 24))⟩])
  (.both (.both (.seq [⟨(some 25), none, .plain (.faddr 3 (.tmp 3))⟩,
      ⟨(some 26), none, .plain (.load none (.tmp 25))⟩,
      ⟨(some 27), none, .plain (.len .sl (.tmp 26))⟩,
      ⟨(some 28), none, .plain (.mov (.const (.int .i64 0)))⟩])
   (.block 0 (.loop (.both (.seq [⟨(some 29), none, .plain (.bin .lss (.tmp 28) (.tmp 27))⟩])
     (.both (.cond (.tmp 29)
       .skip
       (.exit 0))
     (.both (.block 1 (.both (.seq [⟨(some 30), none, .plain (.iaddr none 2 (.tmp 26) (.tmp 28))⟩,
          ⟨(some 31), none, .plain (.load (some 2) (.tmp 30))⟩,
          ⟨(some 8), none, .plain (.alloc [(.int .i64 0), (.int .i64 0)])⟩,
          ⟨none, none, .plain (.store 2 (.tmp 8) (.tmp 31))⟩])
       (.both (.seq [⟨(some 32), none, .plain (.faddr 1 (.tmp 8))⟩,
          ⟨(some 33), none, .plain (.load none (.tmp 32))⟩,
          ⟨(some 34), none, .plain (.faddr 0 (.tmp 8))⟩,
          ⟨(some 35), none, .plain (.load none (.tmp 34))⟩,
          ⟨(some 36), none, .plain (.bin .sub (.tmp 33) (.tmp 35))⟩,
          ⟨(some 9), none, .plain (.mov (.tmp 36))⟩])
       (.both (.both (.seq [⟨(some 37), none, .plain (.mov (.tmp 9))⟩,
           ⟨(some 38), none, .plain (.bin .lss (.tmp 37) (.const (.int .i64 0)))⟩,
           ⟨(some 39), none, .plain (.mov (.tmp 38))⟩,
           ⟨(some 40), (some (39, false)), .plain (.mov (.tmp 6))⟩,
           ⟨(some 41), (some (39, false)), .plain (.len .sl (.tmp 40))⟩,
           ⟨(some 42), (some (39, false)), .plain (.faddr 2 (.tmp 3))⟩,
           ⟨(some 43), (some (39, false)), .plain (.load none (.tmp 42))⟩,
           ⟨(some 44), (some (39, false)), .plain (.mov (.tmp 9))⟩,
           ⟨(some 45), (some (39, false)), .plain (.bin .sub (.tmp 43) (.tmp 44))⟩,
           ⟨(some 46), (some (39, false)), .plain (.bin .gtr (.tmp 41) (.tmp 45))⟩,
           ⟨(some 47), none, .plain (.pick (.tmp 39) (.const (.bool true)) (.tmp 46))⟩])
        (.cond (.tmp 47)
         (.both (.seq [⟨(some 4), none, .plain (.mov (.const (.slice none 0 0)))⟩,
            ⟨(some 5), none, .plain (.mov (.const (.int .i64 4)))⟩])
         .ret)
         .skip))
       (.both (.both (.seq [⟨(some 48), none, .plain (.faddr 0 (.tmp 8))⟩,
           ⟨(some 49), none, .plain (.load none (.tmp 48))⟩,
           ⟨(some 50), none, .plain (.bin .lss (.tmp 49) (.const (.int .i64 0)))⟩])
        (.cond (.tmp 50)
         (.both (.seq [⟨(some 51), none, .plain (.mov (.tmp 6))⟩,
            ⟨(some 52), none, .plain (.mov (.tmp 9))⟩,
            ⟨(some 53), none, .plain (.un .plus (.tmp 51))⟩,
            ⟨(some 6), none, .plain (.mov (.tmp 53))⟩])
         (.exit 1))
         .skip))
       (.both (.seq [⟨(some 55), none, .plain (.mov (.tmp 0))⟩,
          ⟨(some 56), none, .plain (.faddr 0 (.tmp 8))⟩,
          ⟨(some 57), none, .plain (.load none (.tmp 56))⟩,
          ⟨(some 58), none, .plain (.mov (.tmp 9))⟩,
          ⟨(some 59), none, .invoke (.tmp 55) [(57, 104), (75, 106)] [(.tmp 57), (.tmp 58)]⟩,
          ⟨(some 54), none, .plain (.mov (.tmp 59))⟩,
          ⟨(some 60), none, .plain (.extract (.tmp 54) 0)⟩,
          ⟨(some 61), none, .plain (.extract (.tmp 54) 1)⟩,
          ⟨(some 10), none, .plain (.mov (.tmp 60))⟩,
          ⟨(some 11), none, .plain (.mov (.tmp 61))⟩])
       (.both (.both (.seq [⟨(some 62), none, .plain (.mov (.tmp 11))⟩,
           ⟨(some 63), none, .plain (.bin .neq (.tmp 62) (.const (.int .i64 0)))⟩])
        (.cond (.tmp 63)
         (.both (.seq [⟨(some 64), none, .plain (.mov (.tmp 11))⟩,
            ⟨(some 4), none, .plain (.mov (.const (.slice none 0 0)))⟩,
            ⟨(some 5), none, .plain (.mov (.tmp 64))⟩])
         .ret)
         .skip))
       (.seq [⟨(some 65), none, .plain (.mov (.tmp 6))⟩,
         ⟨(some 66), none, .plain (.mov (.tmp 10))⟩,
         ⟨(some 67), none, .plain (.append ⟨1, 1, [(.int .u8 0)]⟩ false (.tmp 65) (.tmp 66))⟩,
         ⟨(some 6), none, .plain (.mov (.tmp 67))⟩]))))))))
     (.seq [⟨(some 68), none, .plain (.bin .add (.tmp 28) (.const (.int .i64 1)))⟩,
       ⟨(some 28), none, .plain (.mov (.tmp 68))⟩])))))))
  (.both (.both (.seq [⟨(some 69), none, .plain (.mov (.tmp 6))⟩,
      ⟨(some 70), none, .plain (.len .sl (.tmp 69))⟩,
      ⟨(some 71), none, .plain (.faddr 2 (.tmp 3))⟩,
      ⟨(some 72), none, .plain (.load none (.tmp 71))⟩,
      ⟨(some 73), none, .plain (.bin .neq (.tmp 70) (.tmp 72))⟩])
   (.cond (.tmp 73)
    (.both (.seq [⟨(some 4), none, .plain (.mov (.const (.slice none 0 0)))⟩,
       ⟨(some 5), none, .plain (.mov (.const (.int .i64 23)))⟩])
    .ret)
    .skip))
  (.both (.seq [⟨(some 74), none, .plain (.mov (.tmp 6))⟩,
     ⟨(some 4), none, .plain (.mov (.tmp 74))⟩,
     ⟨(some 5), none, .plain (.mov (.const (.int .i64 0)))⟩])
  .ret)))))))⟩
/-- fettle/fettleref03.Same -/
def a9 : AFunc := ⟨2, [.tmp 4],
  (.both (.seq [⟨(some 4), none, .plain (.mov (.const (.bool false)))⟩])
  (.both (.both (.seq [⟨(some 6), none, .plain (.mov (.tmp 0))⟩,
      ⟨(some 7), none, .plain (.len .sl (.tmp 6))⟩,
      ⟨(some 8), none, .plain (.mov (.tmp 1))⟩,
      ⟨(some 9), none, .plain (.len .sl (.tmp 8))⟩,
      ⟨(some 10), none, .plain (.bin .neq (.tmp 7) (.tmp 9))⟩])
   (.cond (.tmp 10)
    (.both (.seq [⟨(some 4), none, .plain (.mov (.const (.bool false)))⟩])
    .ret)
    .skip))
  (.both (.both (.seq [⟨(some 5), none, .plain (.mov (.const (.int .i64 0)))⟩])
   (.block 0 (.loop (.both (.both (.seq [⟨(some 11), none, .plain (.mov (.tmp 5))⟩,
         ⟨(some 12), none, .plain (.mov (.tmp 0))⟩,
         ⟨(some 13), none, .plain (.len .sl (.tmp 12))⟩,
         ⟨(some 14), none, .plain (.bin .lss (.tmp 11) (.tmp 13))⟩])
      (.cond (.tmp 14)
       .skip
       (.exit 0)))
     (.both (.block 1 (.both (.seq [⟨(some 17), none, .plain (.mov (.tmp 0))⟩,
          ⟨(some 18), none, .plain (.mov (.tmp 5))⟩,
          ⟨(some 19), none, .plain (.iaddr none 2 (.tmp 17) (.tmp 18))⟩,
          ⟨(some 20), none, .plain (.load (some 2) (.tmp 19))⟩,
          ⟨(some 21), none, .plain (.mov (.tmp 1))⟩,
          ⟨(some 22), none, .plain (.mov (.tmp 5))⟩,
          ⟨(some 23), none, .plain (.iaddr none 2 (.tmp 21) (.tmp 22))⟩,
          ⟨(some 24), none, .plain (.load (some 2) (.tmp 23))⟩,
          ⟨(some 25), none, .plain (.eqA true [(0, .int), (1, .int)] (.tmp 20) (.tmp 24))⟩])
       (.cond (.tmp 25)
        (.both (.seq [⟨(some 4), none, .plain (.mov (.const (.bool false)))⟩])
        .ret)
        .skip)))
     (.seq [⟨(some 15), none, .plain (.mov (.tmp 5))⟩,
       ⟨(some 16), none, .plain (.bin .add (.tmp 15) (.const (.int .i64 1)))⟩,
       ⟨(some 5), none, .plain (.mov (.tmp 16))⟩]))))))
  (.both (.seq [⟨(some 4), none, .plain (.mov (.const (.bool true)))⟩])
  .ret))))⟩
/-- fettle/fettleref01.With -/
def a10 : AFunc := ⟨3, [.tmp 6],
  (.both (.seq [⟨(some 6), none, .plain (.mov (.const (.slice none 0 0)))⟩])
  (.both (.seq [⟨(some 7), none, .plain (.mov (.const (.slice none 0 0)))⟩])
  (.both (.seq [⟨(some 8), none, .plain (.mov (.tmp 7))⟩,
     ⟨(some 9), none, .plain (.mov (.tmp 0))⟩,
     ⟨(some 10), none, .plain (.mov (.tmp 1))⟩,
     ⟨(some 11), none, .plain (.cut (.sl 1) (.tmp 9) none (some (.tmp 10)) none)⟩,
     ⟨(some 12), none, .plain (.append ⟨1, 1, [(.int .u8 0)]⟩ false (.tmp 8) (.tmp 11))⟩,
     ⟨(some 7), none, .plain (.mov (.tmp 12))⟩])
  (.both (.seq [⟨(some 13), none, .plain (.mov (.tmp 7))⟩,
     ⟨(some 14), none, .plain (.mov (.tmp 2))⟩,
     ⟨(some 15), none, .plain (.append ⟨1, 1, [(.int .u8 0)]⟩ false (.tmp 13) (.tmp 14))⟩,
     ⟨(some 7), none, .plain (.mov (.tmp 15))⟩])
  (.both (.seq [⟨(some 16), none, .plain (.mov (.tmp 7))⟩,
     ⟨(some 17), none, .plain (.mov (.tmp 0))⟩,
     ⟨(some 18), none, .plain (.mov (.tmp 1))⟩,
     ⟨(some 19), none, .plain (.mov (.tmp 2))⟩,
     ⟨(some 20), none, .plain (.len .sl (.tmp 19))⟩,
     ⟨(some 21), none, .plain (.bin .add (.tmp 18) (.tmp 20))⟩,
     ⟨(some 22), none, .plain (.cut (.sl 1) (.tmp 17) (some (.tmp 21)) none none)⟩,
     ⟨(some 23), none, .plain (.append ⟨1, 1, [(.int .u8 0)]⟩ false (.tmp 16) (.tmp 22))⟩,
     ⟨(some 6), none, .plain (.mov (.tmp 23))⟩])
  .ret)))))⟩
/-- fettle/fettleref01.Zeros -/
def a11 : AFunc := ⟨1, [.tmp 2],
  (.both (.seq [⟨(some 2), none, .plain (.mov (.const (.slice none 0 0)))⟩])
  (.both (.seq [⟨(some 3), none, .plain (.mov (.tmp 0))⟩,
     ⟨(some 4), none, .plain (.makeSlice ⟨1, 1, [(.int .u8 0)]⟩ (.tmp 3) (.tmp 3))⟩,
     ⟨(some 2), none, .plain (.mov (.tmp 4))⟩])
  .ret))⟩
/-- fettle/fettlelaw15.row -/
def a12 : AFunc := ⟨3, [.tmp 6],
  (.both (.seq [⟨(some 6), none, .plain (.mov (.const (.slice none 0 0)))⟩])
  (.both (.both (.seq [⟨(some 8), none, .plain (.mov (.tmp 0))⟩,
      ⟨(some 9), none, .plain (.bin .eql (.tmp 8) (.const (.int .u64 0)))⟩,
      ⟨(some 10), none, .plain (.mov (.tmp 9))⟩,
      ⟨(some 11), (some (10, false)), .plain (.mov (.tmp 2))⟩,
      ⟨(some 12), (some (10, false)), .plain (.bin .eql (.tmp 11) (.const (.int .u64 0)))⟩,
      ⟨(some 13), none, .plain (.pick (.tmp 10) (.const (.bool true)) (.tmp 12))⟩])
   (.cond (.tmp 13)
    (.both (.seq [⟨(some 14), none, .call 11 [(.const (.int .i64 16))]⟩,
       ⟨(some 6), none, .plain (.mov (.tmp 14))⟩])
    .ret)
    .skip))
  (.both (.seq [⟨(some 15), none, .plain (.mov (.tmp 0))⟩,
     ⟨(some 16), none, .plain (.conv (.int .u8) (.tmp 15))⟩,
     ⟨(some 17), none, .plain (.buildSlice ⟨1, 1, [(.int .u8 0)]⟩ 8 [(0, (.const (.int .u8 0))), (1, (.const (.int .u8 0))), (2, (.const (.int .u8 0))), (3, (.const (.int .u8 0))), (4, (.tmp 16)), (5, (.const (.int .u8 0))), (6, (.const (.int .u8 0))), (7, (.const (.int .u8 0)))])⟩,
     ⟨(some 18), none, .plain (.mov (.tmp 1))⟩,
     ⟨(some 19), none, .call 24 [(.tmp 18), (.const (.int .i64 4))]⟩,
     ⟨(some 20), none, .plain (.append ⟨1, 1, [(.int .u8 0)]⟩ false (.tmp 17) (.tmp 19))⟩,
     ⟨(some 7), none, .plain (.mov (.tmp 20))⟩])
  (.both (.seq [⟨(some 21), none, .plain (.mov (.tmp 7))⟩,
     ⟨(some 22), none, .plain (.mov (.tmp 2))⟩,
     ⟨(some 23), none, .call 24 [(.tmp 22), (.const (.int .i64 4))]⟩,
     ⟨(some 24), none, .plain (.append ⟨1, 1, [(.int .u8 0)]⟩ false (.tmp 21) (.tmp 23))⟩,
     ⟨(some 6), none, .plain (.mov (.tmp 24))⟩])
  .ret))))⟩
/-- (fettle/parts.Map).Room -/
def a13 : AFunc := ⟨3, [.tmp 6],
  (.both (.seq [⟨(some 3), none, .plain (.box (.tmp 0))⟩,
     ⟨(some 4), none, .plain (.box (.tmp 1))⟩,
     ⟨(some 6), none, .plain (.mov (.const (.int .i64 0)))⟩])
  (.both (.seq [⟨(some 13), none, .plain (.mov (.tmp 2))⟩,
     ⟨(some 7), none, .plain (.mov (.tmp 13))⟩])
  (.both (.both (.seq [⟨(some 14), none, .plain (.faddr 0 (.tmp 3))⟩,
      ⟨(some 15), none, .plain (.load none (.tmp 14))⟩,
      ⟨(some 16), none, .plain (.bin .eql (.tmp 15) (.const (.int .i64 2)))⟩])
   (.cond (.tmp 16)
    (.seq [⟨(some 17), none, .plain (.faddr 9 (.tmp 3))⟩,
      ⟨(some 18), none, .plain (.faddr 2 (.tmp 17))⟩,
      ⟨(some 19), none, .plain (.load none (.tmp 18))⟩,
      ⟨(some 20), none, .plain (.bin .add (.tmp 19) (.const (.int .i64 1)))⟩,
      ⟨(some 21), none, .plain (.bin .mul (.tmp 20) (.const (.int .i64 512)))⟩,
      ⟨(some 7), none, .plain (.mov (.tmp 21))⟩])
    (.both (.seq [⟨(some 22), none, .plain (.faddr 3 (.tmp 4))⟩,
       ⟨(some 23), none, .plain (.load none (.tmp 22))⟩,
       ⟨(some 24), none, .plain (.bin .geq (.tmp 23) (.const (.int .i64 4)))⟩])
    (.cond (.tmp 24)
     (.seq [⟨(some 25), none, .plain (.faddr 4 (.tmp 3))⟩,
       ⟨(some 26), none, .plain (.faddr 2 (.tmp 25))⟩,
       ⟨(some 27), none, .plain (.faddr 1 (.tmp 26))⟩,
       ⟨(some 28), none, .plain (.load none (.tmp 27))⟩,
       ⟨(some 7), none, .plain (.mov (.tmp 28))⟩])
     .skip))))
  (.both (.both (.seq [⟨(some 29), none, .plain (.faddr 1 (.tmp 3))⟩,
      ⟨(some 30), none, .plain (.load none (.tmp 29))⟩,
      ⟨(some 31), none, .plain (.len .sl (.tmp 30))⟩,
      ⟨(some 32), none, .plain (.mov (.const (.int .i64 0)))⟩])
   (.block 0 (.loop (.both (.seq [⟨(some 33), none, .plain (.bin .lss (.tmp 32) (.tmp 31))⟩])
     (.both (.cond (.tmp 33)
       .skip
       (.exit 0))
     (.both (.block 1 (.both (.seq [⟨(some 34), none, .plain (.iaddr none 4 (.tmp 30) (.tmp 32))⟩,
          ⟨(some 35), none, .plain (.load (some 4) (.tmp 34))⟩,
          ⟨(some 9), none, .plain (.alloc [(.int .i64 0), (.int .i64 0), (.int .i64 0), (.int .i64 0)])⟩,
          ⟨none, none, .plain (.store 4 (.tmp 9) (.tmp 35))⟩])
       (.both (.seq [⟨(some 36), none, .plain (.faddr 0 (.tmp 9))⟩,
          ⟨(some 37), none, .plain (.faddr 0 (.tmp 36))⟩,
          ⟨(some 38), none, .plain (.load none (.tmp 37))⟩,
          ⟨(some 39), none, .plain (.faddr 0 (.tmp 4))⟩,
          ⟨(some 40), none, .plain (.faddr 1 (.tmp 39))⟩,
          ⟨(some 41), none, .plain (.load none (.tmp 40))⟩,
          ⟨(some 42), none, .plain (.bin .geq (.tmp 38) (.tmp 41))⟩])
       (.cond (.tmp 42)
        (.seq [⟨(some 43), none, .plain (.mov (.tmp 7))⟩,
          ⟨(some 44), none, .plain (.faddr 0 (.tmp 9))⟩,
          ⟨(some 45), none, .plain (.faddr 0 (.tmp 44))⟩,
          ⟨(some 46), none, .plain (.load none (.tmp 45))⟩,
          ⟨(some 47), none, .plain (.minmax false (.tmp 43) [(.tmp 46)])⟩,
          ⟨(some 7), none, .plain (.mov (.tmp 47))⟩])
        .skip))))
     (.seq [⟨(some 48), none, .plain (.bin .add (.tmp 32) (.const (.int .i64 1)))⟩,
       ⟨(some 32), none, .plain (.mov (.tmp 48))⟩])))))))
  (.both (.both (.seq [⟨(some 49), none, .plain (.faddr 2 (.tmp 3))⟩,
      ⟨(some 50), none, .plain (.load none (.tmp 49))⟩,
      ⟨(some 51), none, .plain (.len .sl (.tmp 50))⟩,
      ⟨(some 52), none, .plain (.mov (.const (.int .i64 0)))⟩])
   (.block 2 (.loop (.both (.seq [⟨(some 53), none, .plain (.bin .lss (.tmp 52) (.tmp 51))⟩])
     (.both (.cond (.tmp 53)
       .skip
       (.exit 2))
     (.both (.block 3 (.both (.seq [⟨(some 54), none, .plain (.iaddr none 2 (.tmp 50) (.tmp 52))⟩,
          ⟨(some 55), none, .plain (.load (some 2) (.tmp 54))⟩,
          ⟨(some 11), none, .plain (.alloc [(.int .i64 0), (.int .i64 0)])⟩,
          ⟨none, none, .plain (.store 2 (.tmp 11) (.tmp 55))⟩])
       (.both (.seq [⟨(some 56), none, .plain (.faddr 0 (.tmp 11))⟩,
          ⟨(some 57), none, .plain (.load none (.tmp 56))⟩,
          ⟨(some 58), none, .plain (.faddr 0 (.tmp 4))⟩,
          ⟨(some 59), none, .plain (.faddr 1 (.tmp 58))⟩,
          ⟨(some 60), none, .plain (.load none (.tmp 59))⟩,
          ⟨(some 61), none, .plain (.bin .geq (.tmp 57) (.tmp 60))⟩])
       (.cond (.tmp 61)
        (.seq [⟨(some 62), none, .plain (.mov (.tmp 7))⟩,
          ⟨(some 63), none, .plain (.faddr 0 (.tmp 11))⟩,
          ⟨(some 64), none, .plain (.load none (.tmp 63))⟩,
          ⟨(some 65), none, .plain (.minmax false (.tmp 62) [(.tmp 64)])⟩,
          ⟨(some 7), none, .plain (.mov (.tmp 65))⟩])
        .skip))))
     (.seq [⟨(some 66), none, .plain (.bin .add (.tmp 52) (.const (.int .i64 1)))⟩,
       ⟨(some 52), none, .plain (.mov (.tmp 66))⟩])))))))
  (.both (.both (.seq [⟨(some 67), none, .plain (.faddr 4 (.tmp 3))⟩,
      ⟨(some 68), none, .plain (.faddr 2 (.tmp 67))⟩,
      ⟨(some 69), none, .plain (.load (some 2) (.tmp 68))⟩,
      ⟨(some 12), none, .plain (.alloc [(.int .i64 0), (.int .i64 0)])⟩,
      ⟨none, none, .plain (.store 2 (.tmp 12) (.tmp 69))⟩])
   (.both (.seq [⟨(some 70), none, .plain (.faddr 0 (.tmp 3))⟩,
      ⟨(some 71), none, .plain (.load none (.tmp 70))⟩,
      ⟨(some 72), none, .plain (.bin .eql (.tmp 71) (.const (.int .i64 1)))⟩,
      ⟨(some 73), none, .plain (.mov (.tmp 72))⟩,
      ⟨(some 74), (some (73, true)), .plain (.faddr 3 (.tmp 4))⟩,
      ⟨(some 75), (some (73, true)), .plain (.load none (.tmp 74))⟩,
      ⟨(some 76), (some (73, true)), .plain (.bin .lss (.tmp 75) (.const (.int .i64 4)))⟩,
      ⟨(some 77), none, .plain (.pick (.tmp 73) (.tmp 76) (.const (.bool false)))⟩,
      ⟨(some 78), none, .plain (.mov (.tmp 77))⟩,
      ⟨(some 79), (some (78, true)), .plain (.faddr 1 (.tmp 12))⟩,
      ⟨(some 80), (some (78, true)), .plain (.load none (.tmp 79))⟩,
      ⟨(some 81), (some (78, true)), .plain (.faddr 0 (.tmp 12))⟩,
      ⟨(some 82), (some (78, true)), .plain (.load none (.tmp 81))⟩,
      ⟨(some 83), (some (78, true)), .plain (.bin .gtr (.tmp 80) (.tmp 82))⟩,
      ⟨(some 84), none, .plain (.pick (.tmp 78) (.tmp 83) (.const (.bool false)))⟩,
      ⟨(some 85), none, .plain (.mov (.tmp 84))⟩,
      ⟨(some 86), (some (85, true)), .plain (.faddr 0 (.tmp 12))⟩,
      ⟨(some 87), (some (85, true)), .plain (.load none (.tmp 86))⟩,
      ⟨(some 88), (some (85, true)), .plain (.faddr 0 (.tmp 4))⟩,
      ⟨(some 89), (some (85, true)), .plain (.faddr 1 (.tmp 88))⟩,
      ⟨(some 90), (some (85, true)), .plain (.load none (.tmp 89))⟩,
      ⟨(some 91), (some (85, true)), .plain (.bin .geq (.tmp 87) (.tmp 90))⟩,
      ⟨(some 92), none, .plain (.pick (.tmp 85) (.tmp 91) (.const (.bool false)))⟩])
   (.cond (.tmp 92)
    (.seq [⟨(some 93), none, .plain (.mov (.tmp 7))⟩,
      ⟨(some 94), none, .plain (.faddr 0 (.tmp 12))⟩,
      ⟨(some 95), none, .plain (.load none (.tmp 94))⟩,
      ⟨(some 96), none, .plain (.minmax false (.tmp 93) [(.tmp 95)])⟩,
      ⟨(some 7), none, .plain (.mov (.tmp 96))⟩])
    .skip)))
  (.both (.seq [⟨(some 97), none, .plain (.mov (.tmp 7))⟩,
     ⟨(some 6), none, .plain (.mov (.tmp 97))⟩])
  .ret)))))))⟩
/-- fettle/mbr.Parse -/
def a14 : AFunc := ⟨1, [.cell 2 (some 5), .tmp 3],
  (.both (.seq [⟨(some 2), none, .plain (.alloc [(.slice none 0 0), (.slice none 0 0), (.int .i64 0), (.int .i64 0), (.bool false)])⟩,
     ⟨(some 3), none, .plain (.mov (.const (.int .i64 0)))⟩])
  (.both (.both (.seq [⟨(some 19), none, .plain (.mov (.tmp 0))⟩,
      ⟨(some 20), none, .plain (.eqN false .iface true (.tmp 19) (.const .nilIface))⟩])
   (.cond (.tmp 20)
    (.both (.seq [⟨(some 21), none, .plain (.build (.str [(.slice none 0 0), (.slice none 0 0), (.int .i64 0), (.int .i64 0), (.bool false)] [(0, 1), (1, 1), (2, 2), (4, 1)]) [])⟩,
       ⟨none, none, .plain (.store 5 (.tmp 2) (.tmp 21))⟩,
       ⟨(some 3), none, .plain (.mov (.const (.int .i64 2)))⟩])
    .ret)
    .skip))
  (.both (.seq [⟨(some 22), none, .plain (.mov (.tmp 0))⟩,
     ⟨(some 23), none, .plain (.build (.str [.nilIface, (.slice none 0 0), (.slice none 0 0), (.int .i64 0), (.int .i64 0), (.bool false)] [(0, 1), (1, 5)]) [(0, (.tmp 22))])⟩,
     ⟨(some 24), none, .plain (.box (.tmp 23))⟩,
     ⟨(some 4), none, .plain (.mov (.tmp 24))⟩])
  (.both (.seq [⟨(some 26), none, .plain (.mov (.tmp 4))⟩,
     ⟨(some 27), none, .call 25 [(.tmp 26), (.const (.int .i64 0))]⟩,
     ⟨(some 25), none, .plain (.mov (.tmp 27))⟩,
     ⟨(some 28), none, .plain (.extract (.tmp 25) 0)⟩,
     ⟨(some 29), none, .plain (.extract (.tmp 25) 1)⟩,
     ⟨(some 5), none, .plain (.mov (.tmp 28))⟩,
     ⟨(some 6), none, .plain (.mov (.tmp 29))⟩])
  (.both (.both (.seq [⟨(some 30), none, .plain (.mov (.tmp 6))⟩,
      ⟨(some 31), none, .plain (.bin .neq (.tmp 30) (.const (.int .i64 0)))⟩])
   (.cond (.tmp 31)
    (.both (.seq [⟨(some 32), none, .plain (.build (.str [(.slice none 0 0), (.slice none 0 0), (.int .i64 0), (.int .i64 0), (.bool false)] [(0, 1), (1, 1), (2, 2), (4, 1)]) [])⟩,
       ⟨(some 33), none, .plain (.mov (.tmp 6))⟩,
       ⟨none, none, .plain (.store 5 (.tmp 2) (.tmp 32))⟩,
       ⟨(some 3), none, .plain (.mov (.tmp 33))⟩])
    .ret)
    .skip))
  (.both (.seq [⟨(some 35), none, .plain (.mov (.tmp 5))⟩,
     ⟨(some 36), none, .call 26 [(.tmp 35)]⟩,
     ⟨(some 34), none, .plain (.mov (.tmp 36))⟩,
     ⟨(some 37), none, .plain (.extract (.tmp 34) 0)⟩,
     ⟨(some 38), none, .plain (.extract (.tmp 34) 1)⟩,
     ⟨(some 7), none, .plain (.mov (.tmp 37))⟩,
     ⟨(some 6), none, .plain (.mov (.tmp 38))⟩])
  (.both (.both (.seq [⟨(some 39), none, .plain (.mov (.tmp 6))⟩,
      ⟨(some 40), none, .plain (.bin .neq (.tmp 39) (.const (.int .i64 0)))⟩])
   (.cond (.tmp 40)
    (.both (.seq [⟨(some 41), none, .plain (.build (.str [(.slice none 0 0), (.slice none 0 0), (.int .i64 0), (.int .i64 0), (.bool false)] [(0, 1), (1, 1), (2, 2), (4, 1)]) [])⟩,
       ⟨(some 42), none, .plain (.mov (.tmp 6))⟩,
       ⟨none, none, .plain (.store 5 (.tmp 2) (.tmp 41))⟩,
       ⟨(some 3), none, .plain (.mov (.tmp 42))⟩])
    .ret)
    .skip))
  (.both (.seq [⟨(some 8), none, .plain (.mov (.const (.int .i64 (-1))))⟩])
  (.both (.both (.seq [⟨(some 43), none, .plain (.mov (.tmp 7))⟩,
      ⟨(some 44), none, .plain (.len .sl (.tmp 43))⟩,
      ⟨(some 45), none, .plain (.mov (.const (.int .i64 0)))⟩])
   (.block 0 (.loop (.both (.seq [⟨(some 46), none, .plain (.bin .lss (.tmp 45) (.tmp 44))⟩])
     (.both (.cond (.tmp 46)
       .skip
       (.exit 0))
     (.both (.block 1 (.both (.seq [⟨(some 47), none, .plain (.mov (.tmp 45))⟩,
          ⟨(some 48), none, .plain (.iaddr none 3 (.tmp 43) (.tmp 45))⟩,
          ⟨(some 49), none, .plain (.load (some 3) (.tmp 48))⟩,
          ⟨(some 10), none, .plain (.alloc [(.int .i64 0), (.int .i64 0), (.int .i64 0)])⟩,
          ⟨(some 9), none, .plain (.mov (.tmp 47))⟩,
          ⟨none, none, .plain (.store 3 (.tmp 10) (.tmp 49))⟩])
       (.both (.seq [⟨(some 50), none, .plain (.faddr 0 (.tmp 10))⟩,
          ⟨(some 51), none, .plain (.load none (.tmp 50))⟩])
       (.block 2 (.both (.seq [⟨(some 61), none, .plain (.bin .eql (.tmp 51) (.const (.int .i64 0)))⟩,
           ⟨(some 60), none, .plain (.mov (.tmp 61))⟩])
        (.cond (.tmp 60)
         .skip
         (.both (.seq [⟨(some 63), none, .plain (.bin .eql (.tmp 51) (.const (.int .i64 238)))⟩,
            ⟨(some 62), none, .plain (.mov (.tmp 63))⟩])
         (.cond (.tmp 62)
          (.seq [⟨(some 64), none, .plain (.mov (.tmp 4))⟩,
            ⟨(some 65), none, .plain (.nilCheck (.tmp 64))⟩,
            ⟨(some 66), none, .plain (.faddr 1 (.tmp 65))⟩,
            ⟨(some 67), none, .plain (.faddr 4 (.tmp 66))⟩,
            ⟨none, none, .plain (.store 1 (.tmp 67) (.const (.bool true)))⟩])
          (.both (.both (.seq [⟨(some 69), none, .plain (.bin .eql (.tmp 51) (.const (.int .i64 5)))⟩,
              ⟨(some 68), none, .plain (.mov (.tmp 69))⟩])
           (.cond (.tmp 68)
            .skip
            (.seq [⟨(some 70), none, .plain (.bin .eql (.tmp 51) (.const (.int .i64 15)))⟩,
              ⟨(some 68), none, .plain (.mov (.tmp 70))⟩])))
          (.cond (.tmp 68)
           (.both (.both (.seq [⟨(some 71), none, .plain (.mov (.tmp 8))⟩,
               ⟨(some 72), none, .plain (.bin .geq (.tmp 71) (.const (.int .i64 0)))⟩])
            (.cond (.tmp 72)
             (.both (.seq [⟨(some 73), none, .plain (.build (.str [(.slice none 0 0), (.slice none 0 0), (.int .i64 0), (.int .i64 0), (.bool false)] [(0, 1), (1, 1), (2, 2), (4, 1)]) [])⟩,
                ⟨none, none, .plain (.store 5 (.tmp 2) (.tmp 73))⟩,
                ⟨(some 3), none, .plain (.mov (.const (.int .i64 17)))⟩])
             .ret)
             .skip))
           (.seq [⟨(some 74), none, .plain (.mov (.tmp 9))⟩,
             ⟨(some 8), none, .plain (.mov (.tmp 74))⟩]))
           (.both (.seq [⟨(some 52), none, .plain (.mov (.tmp 4))⟩,
              ⟨(some 53), none, .plain (.load (some 3) (.tmp 10))⟩,
              ⟨(some 54), none, .plain (.mov (.tmp 9))⟩,
              ⟨(some 55), none, .call 27 [(.tmp 52), (.const (.int .i64 0)), (.tmp 53), (.tmp 54)]⟩,
              ⟨(some 11), none, .plain (.mov (.tmp 55))⟩])
           (.both (.seq [⟨(some 56), none, .plain (.mov (.tmp 11))⟩,
              ⟨(some 57), none, .plain (.bin .neq (.tmp 56) (.const (.int .i64 0)))⟩])
           (.cond (.tmp 57)
            (.both (.seq [⟨(some 58), none, .plain (.build (.str [(.slice none 0 0), (.slice none 0 0), (.int .i64 0), (.int .i64 0), (.bool false)] [(0, 1), (1, 1), (2, 2), (4, 1)]) [])⟩,
               ⟨(some 59), none, .plain (.mov (.tmp 11))⟩,
               ⟨none, none, .plain (.store 5 (.tmp 2) (.tmp 58))⟩,
               ⟨(some 3), none, .plain (.mov (.tmp 59))⟩])
            .ret)
            .skip)))))))))))))
     (.seq [⟨(some 75), none, .plain (.bin .add (.tmp 45) (.const (.int .i64 1)))⟩,
       ⟨(some 45), none, .plain (.mov (.tmp 75))⟩])))))))
  (.both (.seq [⟨(some 12), none, .plain (.mov (.const (.slice none 0 0)))⟩])
  (.both (.both (.seq [⟨(some 76), none, .plain (.mov (.tmp 4))⟩,
      ⟨(some 77), none, .plain (.nilCheck (.tmp 76))⟩,
      ⟨(some 78), none, .plain (.faddr 1 (.tmp 77))⟩,
      ⟨(some 79), none, .plain (.faddr 0 (.tmp 78))⟩,
      ⟨(some 80), none, .plain (.load none (.tmp 79))⟩,
      ⟨(some 81), none, .plain (.len .sl (.tmp 80))⟩,
      ⟨(some 82), none, .plain (.mov (.const (.int .i64 0)))⟩])
   (.block 3 (.loop (.both (.seq [⟨(some 83), none, .plain (.bin .lss (.tmp 82) (.tmp 81))⟩])
     (.both (.cond (.tmp 83)
       .skip
       (.exit 3))
     (.both (.block 4 (.both (.seq [⟨(some 84), none, .plain (.iaddr none 4 (.tmp 80) (.tmp 82))⟩,
          ⟨(some 85), none, .plain (.load (some 4) (.tmp 84))⟩,
          ⟨(some 14), none, .plain (.alloc [(.int .i64 0), (.int .i64 0), (.int .i64 0), (.int .i64 0)])⟩,
          ⟨none, none, .plain (.store 4 (.tmp 14) (.tmp 85))⟩])
       (.seq [⟨(some 86), none, .plain (.mov (.tmp 12))⟩,
         ⟨(some 87), none, .plain (.faddr 0 (.tmp 14))⟩,
         ⟨(some 88), none, .plain (.load (some 2) (.tmp 87))⟩,
         ⟨(some 89), none, .plain (.buildSlice ⟨2, 16, [(.int .i64 0), (.int .i64 0)]⟩ 1 [(0, (.tmp 88))])⟩,
         ⟨(some 90), none, .plain (.append ⟨2, 16, [(.int .i64 0), (.int .i64 0)]⟩ false (.tmp 86) (.tmp 89))⟩,
         ⟨(some 12), none, .plain (.mov (.tmp 90))⟩])))
     (.seq [⟨(some 91), none, .plain (.bin .add (.tmp 82) (.const (.int .i64 1)))⟩,
       ⟨(some 82), none, .plain (.mov (.tmp 91))⟩])))))))
  (.both (.both (.seq [⟨(some 92), none, .plain (.mov (.tmp 8))⟩,
      ⟨(some 93), none, .plain (.bin .geq (.tmp 92) (.const (.int .i64 0)))⟩])
   (.cond (.tmp 93)
    (.both (.both (.seq [⟨(some 95), none, .plain (.mov (.tmp 4))⟩,
        ⟨(some 96), none, .plain (.mov (.tmp 4))⟩,
        ⟨(some 97), none, .plain (.mov (.tmp 7))⟩,
        ⟨(some 98), none, .plain (.mov (.tmp 8))⟩,
        ⟨(some 99), none, .plain (.iaddr none 3 (.tmp 97) (.tmp 98))⟩,
        ⟨(some 100), none, .plain (.load (some 3) (.tmp 99))⟩,
        ⟨(some 101), none, .call 28 [(.tmp 96), (.const (.int .i64 0)), (.tmp 100)]⟩,
        ⟨(some 94), none, .plain (.mov (.tmp 101))⟩,
        ⟨(some 102), none, .plain (.extract (.tmp 94) 0)⟩,
        ⟨(some 103), none, .plain (.extract (.tmp 94) 1)⟩,
        ⟨(some 104), none, .plain (.nilCheck (.tmp 95))⟩,
        ⟨(some 105), none, .plain (.faddr 1 (.tmp 104))⟩,
        ⟨(some 106), none, .plain (.faddr 2 (.tmp 105))⟩,
        ⟨none, none, .plain (.store 2 (.tmp 106) (.tmp 102))⟩,
        ⟨(some 6), none, .plain (.mov (.tmp 103))⟩])
     (.both (.seq [⟨(some 107), none, .plain (.mov (.tmp 6))⟩,
        ⟨(some 108), none, .plain (.bin .neq (.tmp 107) (.const (.int .i64 0)))⟩])
     (.cond (.tmp 108)
      (.both (.seq [⟨(some 109), none, .plain (.build (.str [(.slice none 0 0), (.slice none 0 0), (.int .i64 0), (.int .i64 0), (.bool false)] [(0, 1), (1, 1), (2, 2), (4, 1)]) [])⟩,
         ⟨(some 110), none, .plain (.mov (.tmp 6))⟩,
         ⟨none, none, .plain (.store 5 (.tmp 2) (.tmp 109))⟩,
         ⟨(some 3), none, .plain (.mov (.tmp 110))⟩])
      .ret)
      .skip)))
    (.both (.seq [⟨(some 111), none, .plain (.mov (.tmp 12))⟩,
       ⟨(some 112), none, .plain (.mov (.tmp 4))⟩,
       ⟨(some 113), none, .plain (.nilCheck (.tmp 112))⟩,
       ⟨(some 114), none, .plain (.faddr 1 (.tmp 113))⟩,
       ⟨(some 115), none, .plain (.faddr 2 (.tmp 114))⟩,
       ⟨(some 116), none, .plain (.load (some 2) (.tmp 115))⟩,
       ⟨(some 117), none, .plain (.buildSlice ⟨2, 16, [(.int .i64 0), (.int .i64 0)]⟩ 1 [(0, (.tmp 116))])⟩,
       ⟨(some 118), none, .plain (.append ⟨2, 16, [(.int .i64 0), (.int .i64 0)]⟩ false (.tmp 111) (.tmp 117))⟩,
       ⟨(some 12), none, .plain (.mov (.tmp 118))⟩])
    (.both (.seq [⟨(some 119), none, .plain (.mov (.tmp 4))⟩,
       ⟨(some 120), none, .plain (.mov (.tmp 7))⟩,
       ⟨(some 121), none, .plain (.mov (.tmp 8))⟩,
       ⟨(some 122), none, .plain (.iaddr none 3 (.tmp 120) (.tmp 121))⟩,
       ⟨(some 123), none, .plain (.faddr 1 (.tmp 122))⟩,
       ⟨(some 124), none, .plain (.load none (.tmp 123))⟩,
       ⟨(some 125), none, .call 29 [(.tmp 119), (.tmp 124)]⟩,
       ⟨(some 15), none, .plain (.mov (.tmp 125))⟩])
    (.both (.seq [⟨(some 126), none, .plain (.mov (.tmp 15))⟩,
       ⟨(some 127), none, .plain (.bin .neq (.tmp 126) (.const (.int .i64 0)))⟩])
    (.cond (.tmp 127)
     (.both (.seq [⟨(some 128), none, .plain (.build (.str [(.slice none 0 0), (.slice none 0 0), (.int .i64 0), (.int .i64 0), (.bool false)] [(0, 1), (1, 1), (2, 2), (4, 1)]) [])⟩,
        ⟨(some 129), none, .plain (.mov (.tmp 15))⟩,
        ⟨none, none, .plain (.store 5 (.tmp 2) (.tmp 128))⟩,
        ⟨(some 3), none, .plain (.mov (.tmp 129))⟩])
     .ret)
     .skip)))))
    .skip))
  (.both (.seq [⟨(some 130), none, .plain (.mov (.tmp 4))⟩,
     ⟨(some 131), none, .plain (.nilCheck (.tmp 130))⟩,
     ⟨(some 132), none, .plain (.faddr 1 (.tmp 131))⟩,
     ⟨(some 133), none, .plain (.faddr 1 (.tmp 132))⟩,
     ⟨(some 134), none, .plain (.load none (.tmp 133))⟩,
     ⟨(some 135), none, .plain (.append ⟨2, 16, [(.int .i64 0), (.int .i64 0)]⟩ false (.const (.slice none 0 0)) (.tmp 134))⟩,
     ⟨(some 16), none, .plain (.mov (.tmp 135))⟩])
  (.both (.both (.seq [⟨(some 136), none, .plain (.mov (.tmp 4))⟩,
      ⟨(some 137), none, .plain (.nilCheck (.tmp 136))⟩,
      ⟨(some 138), none, .plain (.faddr 1 (.tmp 137))⟩,
      ⟨(some 139), none, .plain (.faddr 0 (.tmp 138))⟩,
      ⟨(some 140), none, .plain (.load none (.tmp 139))⟩,
      ⟨(some 141), none, .plain (.len .sl (.tmp 140))⟩,
      ⟨(some 142), none, .plain (.mov (.const (.int .i64 0)))⟩])
   (.block 5 (.loop (.both (.seq [⟨(some 143), none, .plain (.bin .lss (.tmp 142) (.tmp 141))⟩])
     (.both (.cond (.tmp 143)
       .skip
       (.exit 5))
     (.both (.block 6 (.both (.seq [⟨(some 144), none, .plain (.iaddr none 4 (.tmp 140) (.tmp 142))⟩,
          ⟨(some 145), none, .plain (.load (some 4) (.tmp 144))⟩,
          ⟨(some 18), none, .plain (.alloc [(.int .i64 0), (.int .i64 0), (.int .i64 0), (.int .i64 0)])⟩,
          ⟨none, none, .plain (.store 4 (.tmp 18) (.tmp 145))⟩])
       (.seq [⟨(some 146), none, .plain (.mov (.tmp 16))⟩,
         ⟨(some 147), none, .plain (.faddr 0 (.tmp 18))⟩,
         ⟨(some 148), none, .plain (.load (some 2) (.tmp 147))⟩,
         ⟨(some 149), none, .plain (.buildSlice ⟨2, 16, [(.int .i64 0), (.int .i64 0)]⟩ 1 [(0, (.tmp 148))])⟩,
         ⟨(some 150), none, .plain (.append ⟨2, 16, [(.int .i64 0), (.int .i64 0)]⟩ false (.tmp 146) (.tmp 149))⟩,
         ⟨(some 16), none, .plain (.mov (.tmp 150))⟩])))
     (.seq [⟨(some 151), none, .plain (.bin .add (.tmp 142) (.const (.int .i64 1)))⟩,
       ⟨(some 142), none, .plain (.mov (.tmp 151))⟩])))))))
  (.both (.both (.seq [⟨(some 152), none, .plain (.mov (.tmp 12))⟩,
      ⟨(some 153), none, .call 30 [(.tmp 152)]⟩,
      ⟨(some 154), none, .plain (.un .not (.tmp 153))⟩,
      ⟨(some 155), none, .plain (.mov (.tmp 154))⟩,
      ⟨(some 156), (some (155, false)), .plain (.mov (.tmp 16))⟩,
      ⟨(some 157), (some (155, false)), .call 30 [(.tmp 156)]⟩,
      ⟨(some 158), (some (155, false)), .plain (.un .not (.tmp 157))⟩,
      ⟨(some 159), none, .plain (.pick (.tmp 155) (.const (.bool true)) (.tmp 158))⟩])
   (.cond (.tmp 159)
    (.both (.seq [⟨(some 160), none, .plain (.build (.str [(.slice none 0 0), (.slice none 0 0), (.int .i64 0), (.int .i64 0), (.bool false)] [(0, 1), (1, 1), (2, 2), (4, 1)]) [])⟩,
       ⟨none, none, .plain (.store 5 (.tmp 2) (.tmp 160))⟩,
       ⟨(some 3), none, .plain (.mov (.const (.int .i64 14)))⟩])
    .ret)
    .skip))
  (.both (.seq [⟨(some 161), none, .plain (.mov (.tmp 4))⟩,
     ⟨(some 162), none, .plain (.nilCheck (.tmp 161))⟩,
     ⟨(some 163), none, .plain (.faddr 1 (.tmp 162))⟩,
     ⟨(some 164), none, .plain (.load (some 5) (.tmp 163))⟩,
     ⟨none, none, .plain (.store 5 (.tmp 2) (.tmp 164))⟩,
     ⟨(some 3), none, .plain (.mov (.const (.int .i64 0)))⟩])
  .ret))))))))))))))))⟩
/-- fettle/extent.Norm -/
def a15 : AFunc := ⟨1, [.tmp 2],
  (.both (.seq [⟨(some 2), none, .plain (.mov (.const (.slice none 0 0)))⟩])
  (.both (.seq [⟨(some 8), none, .plain (.mov (.tmp 0))⟩,
     ⟨(some 9), none, .call 31 [(.tmp 8)]⟩,
     ⟨(some 3), none, .plain (.mov (.tmp 9))⟩])
  (.both (.seq [⟨(some 10), none, .plain (.mov (.tmp 3))⟩,
     ⟨(some 11), none, .call 32 [(.tmp 10), (.func 33)]⟩])
  (.both (.seq [⟨(some 4), none, .plain (.mov (.const (.slice none 0 0)))⟩])
  (.both (.both (.seq [⟨(some 12), none, .plain (.mov (.tmp 3))⟩,
      ⟨(some 13), none, .plain (.len .sl (.tmp 12))⟩,
      ⟨(some 14), none, .plain (.mov (.const (.int .i64 0)))⟩])
   (.block 0 (.loop (.both (.seq [⟨(some 15), none, .plain (.bin .lss (.tmp 14) (.tmp 13))⟩])
     (.both (.cond (.tmp 15)
       .skip
       (.exit 0))
     (.both (.block 1 (.both (.seq [⟨(some 16), none, .plain (.iaddr none 2 (.tmp 12) (.tmp 14))⟩,
          ⟨(some 17), none, .plain (.load (some 2) (.tmp 16))⟩,
          ⟨(some 6), none, .plain (.alloc [(.int .i64 0), (.int .i64 0)])⟩,
          ⟨none, none, .plain (.store 2 (.tmp 6) (.tmp 17))⟩])
       (.both (.both (.seq [⟨(some 18), none, .plain (.faddr 1 (.tmp 6))⟩,
           ⟨(some 19), none, .plain (.load none (.tmp 18))⟩,
           ⟨(some 20), none, .plain (.faddr 0 (.tmp 6))⟩,
           ⟨(some 21), none, .plain (.load none (.tmp 20))⟩,
           ⟨(some 22), none, .plain (.bin .leq (.tmp 19) (.tmp 21))⟩])
        (.cond (.tmp 22)
         (.exit 1)
         .skip))
       (.both (.both (.seq [⟨(some 23), none, .plain (.mov (.tmp 4))⟩,
           ⟨(some 24), none, .plain (.len .sl (.tmp 23))⟩,
           ⟨(some 7), none, .plain (.mov (.tmp 24))⟩])
        (.both (.seq [⟨(some 25), none, .plain (.mov (.tmp 7))⟩,
           ⟨(some 26), none, .plain (.bin .gtr (.tmp 25) (.const (.int .i64 0)))⟩,
           ⟨(some 27), none, .plain (.mov (.tmp 26))⟩,
           ⟨(some 28), (some (27, true)), .plain (.faddr 0 (.tmp 6))⟩,
           ⟨(some 29), (some (27, true)), .plain (.load none (.tmp 28))⟩,
           ⟨(some 30), (some (27, true)), .plain (.mov (.tmp 4))⟩,
           ⟨(some 31), (some (27, true)), .plain (.mov (.tmp 7))⟩,
           ⟨(some 32), (some (27, true)), .plain (.bin .sub (.tmp 31) (.const (.int .i64 1)))⟩,
           ⟨(some 33), (some (27, true)), .plain (.iaddr none 2 (.tmp 30) (.tmp 32))⟩,
           ⟨(some 34), (some (27, true)), .plain (.faddr 1 (.tmp 33))⟩,
           ⟨(some 35), (some (27, true)), .plain (.load none (.tmp 34))⟩,
           ⟨(some 36), (some (27, true)), .plain (.bin .leq (.tmp 29) (.tmp 35))⟩,
           ⟨(some 37), none, .plain (.pick (.tmp 27) (.tmp 36) (.const (.bool false)))⟩])
        (.cond (.tmp 37)
         (.both (.draw 0 [⟨0, .pure, 0, ⟨(some 38), none, .plain (.mov (.tmp 4))⟩, [], []⟩,
            ⟨1, .pure, 0, ⟨(some 39), none, .plain (.mov (.tmp 7))⟩, [], []⟩,
            ⟨2, .pure, 0, ⟨(some 40), none, .plain (.bin .sub (.tmp 39) (.const (.int .i64 1)))⟩, [], []⟩,
            ⟨3, .pure, 0, ⟨(some 41), none, .plain (.mov (.tmp 4))⟩, [], []⟩,
            ⟨4, .pure, 0, ⟨(some 42), none, .plain (.mov (.tmp 7))⟩, [], []⟩,
            ⟨5, .pure, 0, ⟨(some 43), none, .plain (.bin .sub (.tmp 42) (.const (.int .i64 1)))⟩, [], []⟩,
            ⟨6, .pure, 0, ⟨(some 44), none, .plain (.iaddr none 2 (.tmp 41) (.tmp 43))⟩, [], []⟩,
            ⟨7, .pure, 0, ⟨(some 45), none, .plain (.faddr 1 (.tmp 44))⟩, [], []⟩,
            ⟨8, .read, 0, ⟨(some 46), none, .plain (.load none (.tmp 45))⟩, [], []⟩,
            ⟨9, .pure, 0, ⟨(some 47), none, .plain (.faddr 1 (.tmp 6))⟩, [], []⟩,
            ⟨10, .read, 0, ⟨(some 48), none, .plain (.load none (.tmp 47))⟩, [], []⟩,
            ⟨11, .pure, 0, ⟨(some 49), none, .plain (.minmax true (.tmp 46) [(.tmp 48)])⟩, [], []⟩,
            ⟨12, .pure, 0, ⟨(some 50), none, .plain (.iaddr none 2 (.tmp 38) (.tmp 40))⟩, [], []⟩,
            ⟨13, .pure, 0, ⟨(some 51), none, .plain (.faddr 1 (.tmp 50))⟩, [], []⟩,
            ⟨14, .chain, 0, ⟨none, none, .plain (.store 1 (.tmp 51) (.tmp 49))⟩, [], []⟩])
         (.exit 1))
         .skip)))
       (.seq [⟨(some 52), none, .plain (.mov (.tmp 4))⟩,
         ⟨(some 53), none, .plain (.load (some 2) (.tmp 6))⟩,
         ⟨(some 54), none, .plain (.buildSlice ⟨2, 16, [(.int .i64 0), (.int .i64 0)]⟩ 1 [(0, (.tmp 53))])⟩,
         ⟨(some 55), none, .plain (.append ⟨2, 16, [(.int .i64 0), (.int .i64 0)]⟩ false (.tmp 52) (.tmp 54))⟩,
         ⟨(some 4), none, .plain (.mov (.tmp 55))⟩])))))
     (.seq [⟨(some 56), none, .plain (.bin .add (.tmp 14) (.const (.int .i64 1)))⟩,
       ⟨(some 14), none, .plain (.mov (.tmp 56))⟩])))))))
  (.both (.seq [⟨(some 57), none, .plain (.mov (.tmp 4))⟩,
     ⟨(some 2), none, .plain (.mov (.tmp 57))⟩])
  .ret))))))⟩
/-- fettle/extent.Union -/
def a18 : AFunc := ⟨1, [.tmp 2],
  (.both (.seq [⟨(some 2), none, .plain (.mov (.const (.slice none 0 0)))⟩])
  (.both (.seq [⟨(some 3), none, .plain (.mov (.const (.slice none 0 0)))⟩])
  (.both (.both (.seq [⟨(some 6), none, .plain (.mov (.tmp 0))⟩,
      ⟨(some 7), none, .plain (.len .sl (.tmp 6))⟩,
      ⟨(some 8), none, .plain (.mov (.const (.int .i64 0)))⟩])
   (.block 0 (.loop (.both (.seq [⟨(some 9), none, .plain (.bin .lss (.tmp 8) (.tmp 7))⟩])
     (.both (.cond (.tmp 9)
       .skip
       (.exit 0))
     (.both (.block 1 (.both (.seq [⟨(some 10), none, .plain (.iaddr none 1 (.tmp 6) (.tmp 8))⟩,
          ⟨(some 11), none, .plain (.load none (.tmp 10))⟩,
          ⟨(some 5), none, .plain (.mov (.tmp 11))⟩])
       (.seq [⟨(some 12), none, .plain (.mov (.tmp 3))⟩,
         ⟨(some 13), none, .plain (.mov (.tmp 5))⟩,
         ⟨(some 14), none, .plain (.append ⟨2, 16, [(.int .i64 0), (.int .i64 0)]⟩ false (.tmp 12) (.tmp 13))⟩,
         ⟨(some 3), none, .plain (.mov (.tmp 14))⟩])))
     (.seq [⟨(some 15), none, .plain (.bin .add (.tmp 8) (.const (.int .i64 1)))⟩,
       ⟨(some 8), none, .plain (.mov (.tmp 15))⟩])))))))
  (.both (.seq [⟨(some 16), none, .plain (.mov (.tmp 3))⟩,
     ⟨(some 17), none, .call 15 [(.tmp 16)]⟩,
     ⟨(some 2), none, .plain (.mov (.tmp 17))⟩])
  .ret))))⟩
/-- slices.SortFunc[[]fettle/api.Part,fettle/api.Part] -/
def a20 : AFunc := ⟨2, [],
  (.both (.seq [⟨(some 5), none, .plain (.mov (.tmp 0))⟩,
     ⟨(some 6), none, .plain (.len .sl (.tmp 5))⟩,
     ⟨(some 4), none, .plain (.mov (.tmp 6))⟩])
  (.seq [⟨(some 7), none, .plain (.mov (.tmp 0))⟩,
    ⟨(some 8), none, .plain (.mov (.tmp 4))⟩,
    ⟨(some 9), none, .plain (.mov (.tmp 4))⟩,
    ⟨(some 10), none, .plain (.conv (.int .u64) (.tmp 9))⟩,
    ⟨(some 11), none, .call 40 [(.tmp 10)]⟩,
    ⟨(some 12), none, .plain (.mov (.tmp 1))⟩,
    ⟨(some 13), none, .call 39 [(.tmp 7), (.const (.int .i64 0)), (.tmp 8), (.tmp 11), (.tmp 12)]⟩]))⟩
/-- cmp.Compare[int64] -/
def a22 : AFunc := ⟨2, [.tmp 4],
  (.both (.seq [⟨(some 4), none, .plain (.mov (.const (.int .i64 0)))⟩])
  (.both (.seq [⟨(some 7), none, .plain (.mov (.tmp 0))⟩,
     ⟨(some 8), none, .call 41 [(.tmp 7)]⟩,
     ⟨(some 5), none, .plain (.mov (.tmp 8))⟩])
  (.both (.seq [⟨(some 9), none, .plain (.mov (.tmp 1))⟩,
     ⟨(some 10), none, .call 41 [(.tmp 9)]⟩,
     ⟨(some 6), none, .plain (.mov (.tmp 10))⟩])
  (.both (.both (.seq [⟨(some 11), none, .plain (.mov (.tmp 5))⟩])
   (.cond (.tmp 11)
    (.both (.both (.seq [⟨(some 12), none, .plain (.mov (.tmp 6))⟩])
     (.cond (.tmp 12)
      (.both (.seq [⟨(some 4), none, .plain (.mov (.const (.int .i64 0)))⟩])
      .ret)
      .skip))
    (.both (.seq [⟨(some 4), none, .plain (.mov (.const (.int .i64 (-1))))⟩])
    .ret))
    .skip))
  (.both (.both (.seq [⟨(some 13), none, .plain (.mov (.tmp 6))⟩])
   (.cond (.tmp 13)
    (.both (.seq [⟨(some 4), none, .plain (.mov (.const (.int .i64 1)))⟩])
    .ret)
    .skip))
  (.both (.both (.seq [⟨(some 14), none, .plain (.mov (.tmp 0))⟩,
      ⟨(some 15), none, .plain (.mov (.tmp 1))⟩,
      ⟨(some 16), none, .plain (.bin .lss (.tmp 14) (.tmp 15))⟩])
   (.cond (.tmp 16)
    (.both (.seq [⟨(some 4), none, .plain (.mov (.const (.int .i64 (-1))))⟩])
    .ret)
    .skip))
  (.both (.both (.seq [⟨(some 17), none, .plain (.mov (.tmp 0))⟩,
      ⟨(some 18), none, .plain (.mov (.tmp 1))⟩,
      ⟨(some 19), none, .plain (.bin .gtr (.tmp 17) (.tmp 18))⟩])
   (.cond (.tmp 19)
    (.both (.seq [⟨(some 4), none, .plain (.mov (.const (.int .i64 1)))⟩])
    .ret)
    .skip))
  (.both (.seq [⟨(some 4), none, .plain (.mov (.const (.int .i64 0)))⟩])
  .ret))))))))⟩
/-- (fettle/extent.Set).Minus -/
def a23 : AFunc := ⟨2, [.tmp 4],
  (.both (.seq [⟨(some 4), none, .plain (.mov (.const (.slice none 0 0)))⟩])
  (.both (.seq [⟨(some 5), none, .plain (.alloc [(.slice none 0 0)])⟩])
  (.both (.seq [⟨(some 12), none, .plain (.mov (.tmp 1))⟩,
     ⟨(some 13), none, .call 15 [(.tmp 12)]⟩,
     ⟨(some 6), none, .plain (.alloc [(.slice none 0 0)])⟩,
     ⟨none, none, .plain (.store 1 (.tmp 6) (.tmp 13))⟩])
  (.both (.both (.seq [⟨(some 14), none, .plain (.mov (.tmp 0))⟩,
      ⟨(some 15), none, .call 42 [(.tmp 14)]⟩])
   (.block 0 (.rangeF (.tmp 15) [16, 17]
     (.seq [⟨(some 8), none, .plain (.alloc [(.int .i64 0), (.int .i64 0)])⟩,
       ⟨none, none, .plain (.store 2 (.tmp 8) (.tmp 17))⟩])
     (.block 1 (.both (.seq [⟨(some 18), none, .plain (.faddr 0 (.tmp 8))⟩,
         ⟨(some 19), none, .plain (.load none (.tmp 18))⟩,
         ⟨(some 9), none, .plain (.mov (.tmp 19))⟩])
      (.both (.both (.seq [⟨(some 20), none, .plain (.load none (.tmp 6))⟩,
          ⟨(some 21), none, .plain (.len .sl (.tmp 20))⟩,
          ⟨(some 22), none, .plain (.mov (.const (.int .i64 0)))⟩])
       (.block 2 (.loop (.both (.seq [⟨(some 23), none, .plain (.bin .lss (.tmp 22) (.tmp 21))⟩])
         (.both (.cond (.tmp 23)
           .skip
           (.exit 2))
         (.both (.block 3 (.both (.seq [⟨(some 24), none, .plain (.iaddr none 2 (.tmp 20) (.tmp 22))⟩,
              ⟨(some 25), none, .plain (.load (some 2) (.tmp 24))⟩,
              ⟨(some 11), none, .plain (.alloc [(.int .i64 0), (.int .i64 0)])⟩,
              ⟨none, none, .plain (.store 2 (.tmp 11) (.tmp 25))⟩])
           (.both (.both (.seq [⟨(some 26), none, .plain (.faddr 1 (.tmp 11))⟩,
               ⟨(some 27), none, .plain (.load none (.tmp 26))⟩,
               ⟨(some 28), none, .plain (.mov (.tmp 9))⟩,
               ⟨(some 29), none, .plain (.bin .leq (.tmp 27) (.tmp 28))⟩,
               ⟨(some 30), none, .plain (.mov (.tmp 29))⟩,
               ⟨(some 31), (some (30, false)), .plain (.faddr 0 (.tmp 11))⟩,
               ⟨(some 32), (some (30, false)), .plain (.load none (.tmp 31))⟩,
               ⟨(some 33), (some (30, false)), .plain (.faddr 1 (.tmp 8))⟩,
               ⟨(some 34), (some (30, false)), .plain (.load none (.tmp 33))⟩,
               ⟨(some 35), (some (30, false)), .plain (.bin .geq (.tmp 32) (.tmp 34))⟩,
               ⟨(some 36), none, .plain (.pick (.tmp 30) (.const (.bool true)) (.tmp 35))⟩])
            (.cond (.tmp 36)
             (.exit 3)
             .skip))
           (.both (.seq [⟨(some 37), none, .plain (.load none (.tmp 5))⟩,
              ⟨(some 38), none, .plain (.mov (.tmp 9))⟩,
              ⟨(some 39), none, .plain (.faddr 0 (.tmp 11))⟩,
              ⟨(some 40), none, .plain (.load none (.tmp 39))⟩,
              ⟨(some 41), none, .plain (.build (.str [(.int .i64 0), (.int .i64 0)] [(0, 1), (1, 1)]) [(0, (.tmp 38)), (1, (.tmp 40))])⟩,
              ⟨(some 42), none, .plain (.buildSlice ⟨2, 16, [(.int .i64 0), (.int .i64 0)]⟩ 1 [(0, (.tmp 41))])⟩,
              ⟨(some 43), none, .plain (.append ⟨2, 16, [(.int .i64 0), (.int .i64 0)]⟩ false (.tmp 37) (.tmp 42))⟩,
              ⟨none, none, .plain (.store 1 (.tmp 5) (.tmp 43))⟩])
           (.seq [⟨(some 44), none, .plain (.faddr 1 (.tmp 11))⟩,
             ⟨(some 45), none, .plain (.load none (.tmp 44))⟩,
             ⟨(some 9), none, .plain (.mov (.tmp 45))⟩])))))
         (.seq [⟨(some 46), none, .plain (.bin .add (.tmp 22) (.const (.int .i64 1)))⟩,
           ⟨(some 22), none, .plain (.mov (.tmp 46))⟩])))))))
      (.seq [⟨(some 47), none, .plain (.load none (.tmp 5))⟩,
        ⟨(some 48), none, .plain (.mov (.tmp 9))⟩,
        ⟨(some 49), none, .plain (.faddr 1 (.tmp 8))⟩,
        ⟨(some 50), none, .plain (.load none (.tmp 49))⟩,
        ⟨(some 51), none, .plain (.build (.str [(.int .i64 0), (.int .i64 0)] [(0, 1), (1, 1)]) [(0, (.tmp 48)), (1, (.tmp 50))])⟩,
        ⟨(some 52), none, .plain (.buildSlice ⟨2, 16, [(.int .i64 0), (.int .i64 0)]⟩ 1 [(0, (.tmp 51))])⟩,
        ⟨(some 53), none, .plain (.append ⟨2, 16, [(.int .i64 0), (.int .i64 0)]⟩ false (.tmp 47) (.tmp 52))⟩,
        ⟨none, none, .plain (.store 1 (.tmp 5) (.tmp 53))⟩])))))))
  (.both (.seq [⟨(some 54), none, .plain (.load none (.tmp 5))⟩,
     ⟨(some 55), none, .call 15 [(.tmp 54)]⟩,
     ⟨(some 4), none, .plain (.mov (.tmp 55))⟩])
  .ret)))))⟩
/-- fettle/fettleref01.Bytes -/
def a24 : AFunc := ⟨2, [.tmp 4],
  (.both (.seq [⟨(some 4), none, .plain (.mov (.const (.slice none 0 0)))⟩])
  (.both (.seq [⟨(some 5), none, .plain (.mov (.const (.slice none 0 0)))⟩])
  (.both (.both (.seq [⟨(some 6), none, .plain (.mov (.const (.int .i64 0)))⟩])
   (.block 0 (.loop (.both (.both (.seq [⟨(some 7), none, .plain (.mov (.tmp 6))⟩,
         ⟨(some 8), none, .plain (.mov (.tmp 1))⟩,
         ⟨(some 9), none, .plain (.bin .lss (.tmp 7) (.tmp 8))⟩])
      (.cond (.tmp 9)
       .skip
       (.exit 0)))
     (.both (.block 1 (.both (.seq [⟨(some 12), none, .plain (.mov (.tmp 5))⟩,
          ⟨(some 13), none, .plain (.mov (.tmp 0))⟩,
          ⟨(some 14), none, .plain (.bin .rem (.tmp 13) (.const (.int .u64 256)))⟩,
          ⟨(some 15), none, .plain (.conv (.int .u8) (.tmp 14))⟩,
          ⟨(some 16), none, .plain (.buildSlice ⟨1, 1, [(.int .u8 0)]⟩ 1 [(0, (.tmp 15))])⟩,
          ⟨(some 17), none, .plain (.append ⟨1, 1, [(.int .u8 0)]⟩ false (.tmp 12) (.tmp 16))⟩,
          ⟨(some 5), none, .plain (.mov (.tmp 17))⟩])
       (.seq [⟨(some 18), none, .plain (.mov (.tmp 0))⟩,
         ⟨(some 19), none, .plain (.bin .quo (.tmp 18) (.const (.int .u64 256)))⟩,
         ⟨(some 0), none, .plain (.mov (.tmp 19))⟩])))
     (.seq [⟨(some 10), none, .plain (.mov (.tmp 6))⟩,
       ⟨(some 11), none, .plain (.bin .add (.tmp 10) (.const (.int .i64 1)))⟩,
       ⟨(some 6), none, .plain (.mov (.tmp 11))⟩]))))))
  (.both (.seq [⟨(some 20), none, .plain (.mov (.tmp 5))⟩,
     ⟨(some 4), none, .plain (.mov (.tmp 20))⟩])
  .ret))))⟩
/-- (*fettle/mbr.reader).sector -/
def a25 : AFunc := ⟨2, [.tmp 4, .tmp 5],
  (.both (.seq [⟨(some 4), none, .plain (.mov (.const (.slice none 0 0)))⟩,
     ⟨(some 5), none, .plain (.mov (.const (.int .i64 0)))⟩])
  (.both (.seq [⟨(some 7), none, .plain (.mov (.tmp 1))⟩,
     ⟨(some 8), none, .plain (.bin .mul (.tmp 7) (.const (.int .i64 512)))⟩,
     ⟨(some 6), none, .plain (.mov (.tmp 8))⟩])
  (.both (.both (.seq [⟨(some 9), none, .plain (.mov (.tmp 1))⟩,
      ⟨(some 10), none, .plain (.bin .lss (.tmp 9) (.const (.int .i64 0)))⟩,
      ⟨(some 11), none, .plain (.mov (.tmp 10))⟩,
      ⟨(some 12), (some (11, false)), .plain (.mov (.tmp 6))⟩,
      ⟨(some 13), (some (11, false)), .plain (.mov (.tmp 0))⟩,
      ⟨(some 14), (some (11, false)), .plain (.nilCheck (.tmp 13))⟩,
      ⟨(some 15), (some (11, false)), .plain (.faddr 0 (.tmp 14))⟩,
      ⟨(some 16), (some (11, false)), .plain (.load none (.tmp 15))⟩,
      ⟨(some 17), (some (11, false)), .invoke (.tmp 16) [(17, 99), (57, 105), (75, 107)] []⟩,
      ⟨(some 18), (some (11, false)), .plain (.bin .sub (.tmp 17) (.const (.int .i64 512)))⟩,
      ⟨(some 19), (some (11, false)), .plain (.bin .gtr (.tmp 12) (.tmp 18))⟩,
      ⟨(some 20), none, .plain (.pick (.tmp 11) (.const (.bool true)) (.tmp 19))⟩])
   (.cond (.tmp 20)
    (.both (.seq [⟨(some 4), none, .plain (.mov (.const (.slice none 0 0)))⟩,
       ⟨(some 5), none, .plain (.mov (.const (.int .i64 4)))⟩])
    .ret)
    .skip))
  (.both (.seq [⟨(some 21), none, .plain (.mov (.tmp 0))⟩,
     ⟨(some 22), none, .plain (.mov (.tmp 0))⟩,
     ⟨(some 23), none, .plain (.nilCheck (.tmp 22))⟩,
     ⟨(some 24), none, .plain (.faddr 1 (.tmp 23))⟩,
     ⟨(some 25), none, .plain (.faddr 1 (.tmp 24))⟩,
     ⟨(some 26), none, .plain (.load none (.tmp 25))⟩,
     ⟨(some 27), none, .plain (.mov (.tmp 6))⟩,
     ⟨(some 28), none, .plain (.mov (.tmp 6))⟩,
     ⟨(some 29), none, .plain (.bin .add (.tmp 28) (.const (.int .i64 512)))⟩,
     ⟨(some 30), none, .plain (.build (.str [(.int .i64 0), (.int .i64 0)] [(0, 1), (1, 1)]) [(0, (.tmp 27)), (1, (.tmp 29))])⟩,
     ⟨(some 31), none, .plain (.buildSlice ⟨2, 16, [(.int .i64 0), (.int .i64 0)]⟩ 1 [(0, (.tmp 30))])⟩,
     ⟨(some 32), none, .plain (.append ⟨2, 16, [(.int .i64 0), (.int .i64 0)]⟩ false (.tmp 26) (.tmp 31))⟩,
     ⟨(some 33), none, .plain (.nilCheck (.tmp 21))⟩,
     ⟨(some 34), none, .plain (.faddr 1 (.tmp 33))⟩,
     ⟨(some 35), none, .plain (.faddr 1 (.tmp 34))⟩,
     ⟨none, none, .plain (.store 1 (.tmp 35) (.tmp 32))⟩])
  (.both (.seq [⟨(some 36), none, .plain (.mov (.tmp 0))⟩,
     ⟨(some 37), none, .plain (.nilCheck (.tmp 36))⟩,
     ⟨(some 38), none, .plain (.faddr 0 (.tmp 37))⟩,
     ⟨(some 39), none, .plain (.load none (.tmp 38))⟩,
     ⟨(some 40), none, .plain (.mov (.tmp 6))⟩,
     ⟨(some 41), none, .invoke (.tmp 39) [(57, 104), (75, 106)] [(.tmp 40), (.const (.int .i64 512))]⟩,
     ⟨(some 42), none, .plain (.extract (.tmp 41) 0)⟩,
     ⟨(some 43), none, .plain (.extract (.tmp 41) 1)⟩,
     ⟨(some 4), none, .plain (.mov (.tmp 42))⟩,
     ⟨(some 5), none, .plain (.mov (.tmp 43))⟩])
  .ret)))))⟩
/-- fettle/mbr.Entries -/
def a26 : AFunc := ⟨1, [.tmp 2, .tmp 3],
  (.both (.seq [⟨(some 2), none, .plain (.mov (.const (.slice none 0 0)))⟩,
     ⟨(some 3), none, .plain (.mov (.const (.int .i64 0)))⟩])
  (.both (.both (.seq [⟨(some 12), none, .plain (.mov (.tmp 0))⟩,
      ⟨(some 13), none, .plain (.len .sl (.tmp 12))⟩,
      ⟨(some 14), none, .plain (.bin .neq (.tmp 13) (.const (.int .i64 512)))⟩])
   (.cond (.tmp 14)
    (.both (.seq [⟨(some 2), none, .plain (.mov (.const (.slice none 0 0)))⟩,
       ⟨(some 3), none, .plain (.mov (.const (.int .i64 4)))⟩])
    .ret)
    .skip))
  (.both (.both (.seq [⟨(some 15), none, .plain (.mov (.tmp 0))⟩,
      ⟨(some 16), none, .plain (.iaddr none 1 (.tmp 15) (.const (.int .i64 510)))⟩,
      ⟨(some 17), none, .plain (.load none (.tmp 16))⟩,
      ⟨(some 18), none, .plain (.bin .neq (.tmp 17) (.const (.int .u8 85)))⟩,
      ⟨(some 19), none, .plain (.mov (.tmp 18))⟩,
      ⟨(some 20), (some (19, false)), .plain (.mov (.tmp 0))⟩,
      ⟨(some 21), (some (19, false)), .plain (.iaddr none 1 (.tmp 20) (.const (.int .i64 511)))⟩,
      ⟨(some 22), (some (19, false)), .plain (.load none (.tmp 21))⟩,
      ⟨(some 23), (some (19, false)), .plain (.bin .neq (.tmp 22) (.const (.int .u8 170)))⟩,
      ⟨(some 24), none, .plain (.pick (.tmp 19) (.const (.bool true)) (.tmp 23))⟩])
   (.cond (.tmp 24)
    (.both (.seq [⟨(some 2), none, .plain (.mov (.const (.slice none 0 0)))⟩,
       ⟨(some 3), none, .plain (.mov (.const (.int .i64 10)))⟩])
    .ret)
    .skip))
  (.both (.seq [⟨(some 4), none, .plain (.mov (.const (.slice none 0 0)))⟩])
  (.both (.both (.seq [⟨(some 25), none, .plain (.mov (.const (.int .i64 0)))⟩])
   (.block 0 (.loop (.both (.seq [⟨(some 26), none, .plain (.bin .lss (.tmp 25) (.const (.int .i64 4)))⟩])
     (.both (.cond (.tmp 26)
       .skip
       (.exit 0))
     (.both (.block 1 (.both (.seq [⟨(some 27), none, .plain (.mov (.tmp 25))⟩,
          ⟨(some 5), none, .plain (.mov (.tmp 27))⟩])
       (.both (.seq [⟨(some 28), none, .plain (.mov (.tmp 5))⟩,
          ⟨(some 29), none, .call 43 [(.tmp 28)]⟩,
          ⟨(some 6), none, .plain (.mov (.tmp 29))⟩])
       (.both (.both (.seq [⟨(some 30), none, .plain (.mov (.tmp 0))⟩,
           ⟨(some 31), none, .plain (.mov (.tmp 6))⟩,
           ⟨(some 32), none, .plain (.iaddr none 1 (.tmp 30) (.tmp 31))⟩,
           ⟨(some 33), none, .plain (.load none (.tmp 32))⟩,
           ⟨(some 34), none, .plain (.bin .neq (.tmp 33) (.const (.int .u8 0)))⟩,
           ⟨(some 35), none, .plain (.mov (.tmp 34))⟩,
           ⟨(some 36), (some (35, true)), .plain (.mov (.tmp 0))⟩,
           ⟨(some 37), (some (35, true)), .plain (.mov (.tmp 6))⟩,
           ⟨(some 38), (some (35, true)), .plain (.iaddr none 1 (.tmp 36) (.tmp 37))⟩,
           ⟨(some 39), (some (35, true)), .plain (.load none (.tmp 38))⟩,
           ⟨(some 40), (some (35, true)), .plain (.bin .neq (.tmp 39) (.const (.int .u8 128)))⟩,
           ⟨(some 41), none, .plain (.pick (.tmp 35) (.tmp 40) (.const (.bool false)))⟩])
        (.cond (.tmp 41)
         (.both (.seq [⟨(some 2), none, .plain (.mov (.const (.slice none 0 0)))⟩,
            ⟨(some 3), none, .plain (.mov (.const (.int .i64 11)))⟩])
         .ret)
         .skip))
       (.both (.seq [⟨(some 43), none, .plain (.mov (.tmp 0))⟩,
          ⟨(some 44), none, .plain (.mov (.tmp 6))⟩,
          ⟨(some 45), none, .plain (.bin .add (.tmp 44) (.const (.int .i64 8)))⟩,
          ⟨(some 46), none, .call 44 [(.tmp 43), (.tmp 45)]⟩,
          ⟨(some 42), none, .plain (.mov (.tmp 46))⟩,
          ⟨(some 47), none, .plain (.extract (.tmp 42) 0)⟩,
          ⟨(some 48), none, .plain (.extract (.tmp 42) 1)⟩,
          ⟨(some 7), none, .plain (.mov (.tmp 47))⟩,
          ⟨(some 8), none, .plain (.mov (.tmp 48))⟩])
       (.both (.seq [⟨(some 50), none, .plain (.mov (.tmp 0))⟩,
          ⟨(some 51), none, .plain (.mov (.tmp 6))⟩,
          ⟨(some 52), none, .plain (.bin .add (.tmp 51) (.const (.int .i64 12)))⟩,
          ⟨(some 53), none, .call 44 [(.tmp 50), (.tmp 52)]⟩,
          ⟨(some 49), none, .plain (.mov (.tmp 53))⟩,
          ⟨(some 54), none, .plain (.extract (.tmp 49) 0)⟩,
          ⟨(some 55), none, .plain (.extract (.tmp 49) 1)⟩,
          ⟨(some 9), none, .plain (.mov (.tmp 54))⟩,
          ⟨(some 10), none, .plain (.mov (.tmp 55))⟩])
       (.both (.seq [⟨(some 56), none, .plain (.mov (.tmp 0))⟩,
          ⟨(some 57), none, .plain (.mov (.tmp 6))⟩,
          ⟨(some 58), none, .plain (.bin .add (.tmp 57) (.const (.int .i64 4)))⟩,
          ⟨(some 59), none, .plain (.iaddr none 1 (.tmp 56) (.tmp 58))⟩,
          ⟨(some 60), none, .plain (.load none (.tmp 59))⟩,
          ⟨(some 61), none, .plain (.conv (.int .i64) (.tmp 60))⟩,
          ⟨(some 62), none, .plain (.mov (.tmp 7))⟩,
          ⟨(some 63), none, .plain (.conv (.int .i64) (.tmp 62))⟩,
          ⟨(some 64), none, .plain (.mov (.tmp 9))⟩,
          ⟨(some 65), none, .plain (.conv (.int .i64) (.tmp 64))⟩,
          ⟨(some 66), none, .plain (.build (.str [(.int .i64 0), (.int .i64 0), (.int .i64 0)] [(0, 1), (1, 1), (2, 1)]) [(0, (.tmp 61)), (1, (.tmp 63)), (2, (.tmp 65))])⟩,
          ⟨(some 11), none, .plain (.alloc [(.int .i64 0), (.int .i64 0), (.int .i64 0)])⟩,
          ⟨none, none, .plain (.store 3 (.tmp 11) (.tmp 66))⟩])
       (.both (.both (.seq [⟨(some 67), none, .plain (.faddr 0 (.tmp 11))⟩,
           ⟨(some 68), none, .plain (.load none (.tmp 67))⟩,
           ⟨(some 69), none, .plain (.bin .eql (.tmp 68) (.const (.int .i64 0)))⟩,
           ⟨(some 70), none, .plain (.faddr 2 (.tmp 11))⟩,
           ⟨(some 71), none, .plain (.load none (.tmp 70))⟩,
           ⟨(some 72), none, .plain (.bin .eql (.tmp 71) (.const (.int .i64 0)))⟩,
           ⟨(some 73), none, .plain (.eqB true (.tmp 69) (.tmp 72))⟩])
        (.cond (.tmp 73)
         (.both (.seq [⟨(some 2), none, .plain (.mov (.const (.slice none 0 0)))⟩,
            ⟨(some 3), none, .plain (.mov (.const (.int .i64 11)))⟩])
         .ret)
         .skip))
       (.seq [⟨(some 74), none, .plain (.mov (.tmp 4))⟩,
         ⟨(some 75), none, .plain (.load (some 3) (.tmp 11))⟩,
         ⟨(some 76), none, .plain (.buildSlice ⟨3, 24, [(.int .i64 0), (.int .i64 0), (.int .i64 0)]⟩ 1 [(0, (.tmp 75))])⟩,
         ⟨(some 77), none, .plain (.append ⟨3, 24, [(.int .i64 0), (.int .i64 0), (.int .i64 0)]⟩ false (.tmp 74) (.tmp 76))⟩,
         ⟨(some 4), none, .plain (.mov (.tmp 77))⟩])))))))))
     (.seq [⟨(some 78), none, .plain (.bin .add (.tmp 25) (.const (.int .i64 1)))⟩,
       ⟨(some 25), none, .plain (.mov (.tmp 78))⟩])))))))
  (.both (.seq [⟨(some 79), none, .plain (.mov (.tmp 4))⟩,
     ⟨(some 2), none, .plain (.mov (.tmp 79))⟩,
     ⟨(some 3), none, .plain (.mov (.const (.int .i64 0)))⟩])
  .ret))))))⟩
/-- (*fettle/mbr.reader).add -/
def a27 : AFunc := ⟨4, [.tmp 8],
  (.both (.seq [⟨(some 6), none, .plain (.box (.tmp 2))⟩,
     ⟨(some 8), none, .plain (.mov (.const (.int .i64 0)))⟩])
  (.both (.seq [⟨(some 12), none, .plain (.mov (.tmp 0))⟩,
     ⟨(some 13), none, .plain (.mov (.tmp 1))⟩,
     ⟨(some 14), none, .plain (.load (some 3) (.tmp 6))⟩,
     ⟨(some 15), none, .call 28 [(.tmp 12), (.tmp 13), (.tmp 14)]⟩,
     ⟨(some 11), none, .plain (.mov (.tmp 15))⟩,
     ⟨(some 16), none, .plain (.extract (.tmp 11) 0)⟩,
     ⟨(some 17), none, .plain (.extract (.tmp 11) 1)⟩,
     ⟨(some 9), none, .plain (.alloc [(.int .i64 0), (.int .i64 0)])⟩,
     ⟨none, none, .plain (.store 2 (.tmp 9) (.tmp 16))⟩,
     ⟨(some 10), none, .plain (.mov (.tmp 17))⟩])
  (.both (.both (.seq [⟨(some 18), none, .plain (.mov (.tmp 10))⟩,
      ⟨(some 19), none, .plain (.bin .neq (.tmp 18) (.const (.int .i64 0)))⟩])
   (.cond (.tmp 19)
    (.both (.seq [⟨(some 20), none, .plain (.mov (.tmp 10))⟩,
       ⟨(some 8), none, .plain (.mov (.tmp 20))⟩])
    .ret)
    .skip))
  (.both (.both (.seq [⟨(some 21), none, .plain (.mov (.tmp 0))⟩,
      ⟨(some 22), none, .plain (.nilCheck (.tmp 21))⟩,
      ⟨(some 23), none, .plain (.faddr 1 (.tmp 22))⟩,
      ⟨(some 24), none, .plain (.faddr 0 (.tmp 23))⟩,
      ⟨(some 25), none, .plain (.load none (.tmp 24))⟩,
      ⟨(some 26), none, .plain (.len .sl (.tmp 25))⟩,
      ⟨(some 27), none, .plain (.bin .geq (.tmp 26) (.const (.int .i64 32)))⟩])
   (.cond (.tmp 27)
    (.both (.seq [⟨(some 8), none, .plain (.mov (.const (.int .i64 3)))⟩])
    .ret)
    .skip))
  (.both (.draw 1 [⟨0, .pure, 0, ⟨(some 28), none, .plain (.mov (.tmp 0))⟩, [], []⟩,
     ⟨1, .pure, 0, ⟨(some 29), none, .plain (.mov (.tmp 0))⟩, [], []⟩,
     ⟨2, .pure, 0, ⟨(some 30), none, .plain (.nilCheck (.tmp 29))⟩, [], []⟩,
     ⟨3, .pure, 0, ⟨(some 31), none, .plain (.faddr 1 (.tmp 30))⟩, [], []⟩,
     ⟨4, .pure, 0, ⟨(some 32), none, .plain (.faddr 0 (.tmp 31))⟩, [], []⟩,
     ⟨5, .read, 0, ⟨(some 33), none, .plain (.load none (.tmp 32))⟩, [], []⟩,
     ⟨6, .read, 0, ⟨(some 34), none, .plain (.load (some 2) (.tmp 9))⟩, [], []⟩,
     ⟨7, .pure, 0, ⟨(some 35), none, .plain (.faddr 0 (.tmp 6))⟩, [], []⟩,
     ⟨8, .read, 0, ⟨(some 36), none, .plain (.load none (.tmp 35))⟩, [], []⟩,
     ⟨9, .pure, 0, ⟨(some 37), none, .plain (.mov (.tmp 3))⟩, [], []⟩,
     ⟨10, .pure, 0, ⟨(some 38), none, .plain (.build (.str [(.int .i64 0), (.int .i64 0), (.int .i64 0), (.int .i64 0)] [(0, 2), (2, 1), (3, 1)]) [(0, (.tmp 34)), (1, (.tmp 36)), (2, (.tmp 37))])⟩, [], []⟩,
     ⟨11, .fresh, 0, ⟨(some 39), none, .plain (.buildSlice ⟨4, 32, [(.int .i64 0), (.int .i64 0), (.int .i64 0), (.int .i64 0)]⟩ 1 [(0, (.tmp 38))])⟩, [], []⟩,
     ⟨12, .chain, 0, ⟨(some 40), none, .plain (.append ⟨4, 32, [(.int .i64 0), (.int .i64 0), (.int .i64 0), (.int .i64 0)]⟩ false (.tmp 33) (.tmp 39))⟩, [], []⟩,
     ⟨13, .pure, 0, ⟨(some 41), none, .plain (.nilCheck (.tmp 28))⟩, [], []⟩,
     ⟨14, .pure, 0, ⟨(some 42), none, .plain (.faddr 1 (.tmp 41))⟩, [], []⟩,
     ⟨15, .pure, 0, ⟨(some 43), none, .plain (.faddr 0 (.tmp 42))⟩, [], []⟩,
     ⟨16, .chain, 0, ⟨none, none, .plain (.store 1 (.tmp 43) (.tmp 40))⟩, [], []⟩])
  (.both (.seq [⟨(some 8), none, .plain (.mov (.const (.int .i64 0)))⟩])
  .ret))))))⟩
/-- (*fettle/mbr.reader).ext -/
def a28 : AFunc := ⟨3, [.cell 6 (some 2), .tmp 7],
  (.both (.seq [⟨(some 5), none, .plain (.box (.tmp 2))⟩,
     ⟨(some 6), none, .plain (.alloc [(.int .i64 0), (.int .i64 0)])⟩,
     ⟨(some 7), none, .plain (.mov (.const (.int .i64 0)))⟩])
  (.both (.seq [⟨(some 10), none, .plain (.mov (.tmp 1))⟩,
     ⟨(some 11), none, .plain (.faddr 1 (.tmp 5))⟩,
     ⟨(some 12), none, .plain (.load none (.tmp 11))⟩,
     ⟨(some 13), none, .plain (.bin .add (.tmp 10) (.tmp 12))⟩,
     ⟨(some 14), none, .plain (.bin .mul (.tmp 13) (.const (.int .i64 512)))⟩,
     ⟨(some 15), none, .plain (.mov (.tmp 1))⟩,
     ⟨(some 16), none, .plain (.faddr 1 (.tmp 5))⟩,
     ⟨(some 17), none, .plain (.load none (.tmp 16))⟩,
     ⟨(some 18), none, .plain (.bin .add (.tmp 15) (.tmp 17))⟩,
     ⟨(some 19), none, .plain (.faddr 2 (.tmp 5))⟩,
     ⟨(some 20), none, .plain (.load none (.tmp 19))⟩,
     ⟨(some 21), none, .plain (.bin .add (.tmp 18) (.tmp 20))⟩,
     ⟨(some 22), none, .plain (.bin .mul (.tmp 21) (.const (.int .i64 512)))⟩,
     ⟨(some 8), none, .plain (.mov (.tmp 14))⟩,
     ⟨(some 9), none, .plain (.mov (.tmp 22))⟩])
  (.both (.both (.seq [⟨(some 23), none, .plain (.mov (.tmp 8))⟩,
      ⟨(some 24), none, .plain (.bin .lss (.tmp 23) (.const (.int .i64 512)))⟩,
      ⟨(some 25), none, .plain (.mov (.tmp 24))⟩,
      ⟨(some 26), (some (25, false)), .plain (.mov (.tmp 9))⟩,
      ⟨(some 27), (some (25, false)), .plain (.mov (.tmp 0))⟩,
      ⟨(some 28), (some (25, false)), .plain (.nilCheck (.tmp 27))⟩,
      ⟨(some 29), (some (25, false)), .plain (.faddr 0 (.tmp 28))⟩,
      ⟨(some 30), (some (25, false)), .plain (.load none (.tmp 29))⟩,
      ⟨(some 31), (some (25, false)), .invoke (.tmp 30) [(17, 99), (57, 105), (75, 107)] []⟩,
      ⟨(some 32), (some (25, false)), .plain (.bin .gtr (.tmp 26) (.tmp 31))⟩,
      ⟨(some 33), none, .plain (.pick (.tmp 25) (.const (.bool true)) (.tmp 32))⟩])
   (.cond (.tmp 33)
    (.both (.seq [⟨(some 34), none, .plain (.build (.str [(.int .i64 0), (.int .i64 0)] [(0, 1), (1, 1)]) [])⟩,
       ⟨none, none, .plain (.store 2 (.tmp 6) (.tmp 34))⟩,
       ⟨(some 7), none, .plain (.mov (.const (.int .i64 4)))⟩])
    .ret)
    .skip))
  (.both (.seq [⟨(some 35), none, .plain (.mov (.tmp 8))⟩,
     ⟨(some 36), none, .plain (.mov (.tmp 9))⟩,
     ⟨(some 37), none, .plain (.build (.str [(.int .i64 0), (.int .i64 0)] [(0, 1), (1, 1)]) [(0, (.tmp 35)), (1, (.tmp 36))])⟩,
     ⟨none, none, .plain (.store 2 (.tmp 6) (.tmp 37))⟩,
     ⟨(some 7), none, .plain (.mov (.const (.int .i64 0)))⟩])
  .ret))))⟩
/-- fettle/extent.Apart -/
def a30 : AFunc := ⟨1, [.tmp 2],
  (.both (.seq [⟨(some 2), none, .plain (.mov (.const (.bool false)))⟩])
  (.both (.seq [⟨(some 3), none, .plain (.mov (.const (.int .i64 0)))⟩])
  (.both (.both (.seq [⟨(some 6), none, .plain (.mov (.tmp 0))⟩,
      ⟨(some 7), none, .plain (.len .sl (.tmp 6))⟩,
      ⟨(some 8), none, .plain (.mov (.const (.int .i64 0)))⟩])
   (.block 0 (.loop (.both (.seq [⟨(some 9), none, .plain (.bin .lss (.tmp 8) (.tmp 7))⟩])
     (.both (.cond (.tmp 9)
       .skip
       (.exit 0))
     (.both (.block 1 (.both (.seq [⟨(some 10), none, .plain (.iaddr none 2 (.tmp 6) (.tmp 8))⟩,
          ⟨(some 11), none, .plain (.load (some 2) (.tmp 10))⟩,
          ⟨(some 5), none, .plain (.alloc [(.int .i64 0), (.int .i64 0)])⟩,
          ⟨none, none, .plain (.store 2 (.tmp 5) (.tmp 11))⟩])
       (.seq [⟨(some 12), none, .plain (.mov (.tmp 3))⟩,
         ⟨(some 13), none, .plain (.faddr 1 (.tmp 5))⟩,
         ⟨(some 14), none, .plain (.load none (.tmp 13))⟩,
         ⟨(some 15), none, .plain (.faddr 0 (.tmp 5))⟩,
         ⟨(some 16), none, .plain (.load none (.tmp 15))⟩,
         ⟨(some 17), none, .plain (.bin .sub (.tmp 14) (.tmp 16))⟩,
         ⟨(some 18), none, .plain (.minmax true (.const (.int .i64 0)) [(.tmp 17)])⟩,
         ⟨(some 19), none, .plain (.bin .add (.tmp 12) (.tmp 18))⟩,
         ⟨(some 3), none, .plain (.mov (.tmp 19))⟩])))
     (.seq [⟨(some 20), none, .plain (.bin .add (.tmp 8) (.const (.int .i64 1)))⟩,
       ⟨(some 8), none, .plain (.mov (.tmp 20))⟩])))))))
  (.both (.seq [⟨(some 21), none, .plain (.mov (.tmp 0))⟩,
     ⟨(some 22), none, .call 15 [(.tmp 21)]⟩,
     ⟨(some 23), none, .call 45 [(.tmp 22)]⟩,
     ⟨(some 24), none, .plain (.mov (.tmp 3))⟩,
     ⟨(some 25), none, .plain (.bin .eql (.tmp 23) (.tmp 24))⟩,
     ⟨(some 2), none, .plain (.mov (.tmp 25))⟩])
  .ret))))⟩
/-- slices.Clone[[]fettle/api.Ext,fettle/api.Ext] -/
def a31 : AFunc := ⟨1, [.tmp 2],
  (.both (.seq [⟨(some 2), none, .plain (.mov (.const (.slice none 0 0)))⟩])
  (.both (.both (.seq [⟨(some 3), none, .plain (.mov (.tmp 0))⟩,
      ⟨(some 4), none, .plain (.eqN false .sl true (.tmp 3) (.const (.slice none 0 0)))⟩])
   (.cond (.tmp 4)
    (.both (.seq [⟨(some 2), none, .plain (.mov (.const (.slice none 0 0)))⟩])
    .ret)
    .skip))
  (.both (.seq [⟨(some 5), none, .plain (.buildSlice ⟨2, 16, [(.int .i64 0), (.int .i64 0)]⟩ 0 [])⟩,
     ⟨(some 6), none, .plain (.mov (.tmp 0))⟩,
     ⟨(some 7), none, .plain (.append ⟨2, 16, [(.int .i64 0), (.int .i64 0)]⟩ false (.tmp 5) (.tmp 6))⟩,
     ⟨(some 2), none, .plain (.mov (.tmp 7))⟩])
  .ret)))⟩
/-- slices.SortFunc[[]fettle/api.Ext,fettle/api.Ext] -/
def a32 : AFunc := ⟨2, [],
  (.both (.seq [⟨(some 5), none, .plain (.mov (.tmp 0))⟩,
     ⟨(some 6), none, .plain (.len .sl (.tmp 5))⟩,
     ⟨(some 4), none, .plain (.mov (.tmp 6))⟩])
  (.seq [⟨(some 7), none, .plain (.mov (.tmp 0))⟩,
    ⟨(some 8), none, .plain (.mov (.tmp 4))⟩,
    ⟨(some 9), none, .plain (.mov (.tmp 4))⟩,
    ⟨(some 10), none, .plain (.conv (.int .u64) (.tmp 9))⟩,
    ⟨(some 11), none, .call 40 [(.tmp 10)]⟩,
    ⟨(some 12), none, .plain (.mov (.tmp 1))⟩,
    ⟨(some 13), none, .call 46 [(.tmp 7), (.const (.int .i64 0)), (.tmp 8), (.tmp 11), (.tmp 12)]⟩]))⟩
/-- fettle/extent.Norm$1 -/
def a33 : AFunc := ⟨2, [.tmp 4],
  (.both (.seq [⟨(some 2), none, .plain (.box (.tmp 0))⟩,
     ⟨(some 3), none, .plain (.box (.tmp 1))⟩,
     ⟨(some 4), none, .plain (.mov (.const (.int .i64 0)))⟩])
  (.both (.seq [⟨(some 5), none, .plain (.faddr 0 (.tmp 2))⟩,
     ⟨(some 6), none, .plain (.load none (.tmp 5))⟩,
     ⟨(some 7), none, .plain (.faddr 0 (.tmp 3))⟩,
     ⟨(some 8), none, .plain (.load none (.tmp 7))⟩,
     ⟨(some 9), none, .call 22 [(.tmp 6), (.tmp 8)]⟩,
     ⟨(some 4), none, .plain (.mov (.tmp 9))⟩])
  .ret))⟩
/-- slices.pdqsortCmpFunc[fettle/api.Part] -/
def a39 : AFunc := ⟨5, [],
  (.both (.seq [⟨(some 10), none, .plain (.mov (.const (.bool true)))⟩])
  (.both (.seq [⟨(some 11), none, .plain (.mov (.const (.bool true)))⟩])
  (.block 0 (.loop (.block 1 (.both (.seq [⟨(some 21), none, .plain (.mov (.tmp 2))⟩,
        ⟨(some 22), none, .plain (.mov (.tmp 1))⟩,
        ⟨(some 23), none, .plain (.bin .sub (.tmp 21) (.tmp 22))⟩,
        ⟨(some 12), none, .plain (.mov (.tmp 23))⟩])
     (.both (.both (.seq [⟨(some 24), none, .plain (.mov (.tmp 12))⟩,
         ⟨(some 25), none, .plain (.bin .leq (.tmp 24) (.const (.int .i64 12)))⟩])
      (.cond (.tmp 25)
       (.both (.seq [⟨(some 26), none, .plain (.mov (.tmp 0))⟩,
          ⟨(some 27), none, .plain (.mov (.tmp 1))⟩,
          ⟨(some 28), none, .plain (.mov (.tmp 2))⟩,
          ⟨(some 29), none, .plain (.mov (.tmp 4))⟩,
          ⟨(some 30), none, .call 51 [(.tmp 26), (.tmp 27), (.tmp 28), (.tmp 29)]⟩])
       .ret)
       .skip))
     (.both (.both (.seq [⟨(some 31), none, .plain (.mov (.tmp 3))⟩,
         ⟨(some 32), none, .plain (.bin .eql (.tmp 31) (.const (.int .i64 0)))⟩])
      (.cond (.tmp 32)
       (.both (.seq [⟨(some 33), none, .plain (.mov (.tmp 0))⟩,
          ⟨(some 34), none, .plain (.mov (.tmp 1))⟩,
          ⟨(some 35), none, .plain (.mov (.tmp 2))⟩,
          ⟨(some 36), none, .plain (.mov (.tmp 4))⟩,
          ⟨(some 37), none, .call 52 [(.tmp 33), (.tmp 34), (.tmp 35), (.tmp 36)]⟩])
       .ret)
       .skip))
     (.both (.both (.seq [⟨(some 38), none, .plain (.mov (.tmp 10))⟩,
         ⟨(some 39), none, .plain (.un .not (.tmp 38))⟩])
      (.cond (.tmp 39)
       (.both (.seq [⟨(some 40), none, .plain (.mov (.tmp 0))⟩,
          ⟨(some 41), none, .plain (.mov (.tmp 1))⟩,
          ⟨(some 42), none, .plain (.mov (.tmp 2))⟩,
          ⟨(some 43), none, .plain (.mov (.tmp 4))⟩,
          ⟨(some 44), none, .call 53 [(.tmp 40), (.tmp 41), (.tmp 42), (.tmp 43)]⟩])
       (.seq [⟨(some 45), none, .plain (.mov (.tmp 3))⟩,
         ⟨(some 46), none, .plain (.bin .sub (.tmp 45) (.const (.int .i64 1)))⟩,
         ⟨(some 3), none, .plain (.mov (.tmp 46))⟩]))
       .skip))
     (.both (.seq [⟨(some 48), none, .plain (.mov (.tmp 0))⟩,
        ⟨(some 49), none, .plain (.mov (.tmp 1))⟩,
        ⟨(some 50), none, .plain (.mov (.tmp 2))⟩,
        ⟨(some 51), none, .plain (.mov (.tmp 4))⟩,
        ⟨(some 52), none, .call 54 [(.tmp 48), (.tmp 49), (.tmp 50), (.tmp 51)]⟩,
        ⟨(some 47), none, .plain (.mov (.tmp 52))⟩,
        ⟨(some 53), none, .plain (.extract (.tmp 47) 0)⟩,
        ⟨(some 54), none, .plain (.extract (.tmp 47) 1)⟩,
        ⟨(some 13), none, .plain (.mov (.tmp 53))⟩,
        ⟨(some 14), none, .plain (.mov (.tmp 54))⟩])
     (.both (.both (.seq [⟨(some 55), none, .plain (.mov (.tmp 14))⟩,
         ⟨(some 56), none, .plain (.bin .eql (.tmp 55) (.const (.int .i64 2)))⟩])
      (.cond (.tmp 56)
       (.both (.seq [⟨(some 57), none, .plain (.mov (.tmp 0))⟩,
          ⟨(some 58), none, .plain (.mov (.tmp 1))⟩,
          ⟨(some 59), none, .plain (.mov (.tmp 2))⟩,
          ⟨(some 60), none, .plain (.mov (.tmp 4))⟩,
          ⟨(some 61), none, .call 55 [(.tmp 57), (.tmp 58), (.tmp 59), (.tmp 60)]⟩])
       (.both (.seq [⟨(some 62), none, .plain (.mov (.tmp 2))⟩,
          ⟨(some 63), none, .plain (.bin .sub (.tmp 62) (.const (.int .i64 1)))⟩,
          ⟨(some 64), none, .plain (.mov (.tmp 13))⟩,
          ⟨(some 65), none, .plain (.mov (.tmp 1))⟩,
          ⟨(some 66), none, .plain (.bin .sub (.tmp 64) (.tmp 65))⟩,
          ⟨(some 67), none, .plain (.bin .sub (.tmp 63) (.tmp 66))⟩,
          ⟨(some 13), none, .plain (.mov (.tmp 67))⟩])
       (.seq [⟨(some 14), none, .plain (.mov (.const (.int .i64 1)))⟩])))
       .skip))
     (.both (.both (.seq [⟨(some 68), none, .plain (.mov (.tmp 10))⟩,
         ⟨(some 69), none, .plain (.mov (.tmp 68))⟩,
         ⟨(some 70), (some (69, true)), .plain (.mov (.tmp 11))⟩,
         ⟨(some 71), none, .plain (.pick (.tmp 69) (.tmp 70) (.const (.bool false)))⟩,
         ⟨(some 72), none, .plain (.mov (.tmp 71))⟩,
         ⟨(some 73), (some (72, true)), .plain (.mov (.tmp 14))⟩,
         ⟨(some 74), (some (72, true)), .plain (.bin .eql (.tmp 73) (.const (.int .i64 1)))⟩,
         ⟨(some 75), none, .plain (.pick (.tmp 72) (.tmp 74) (.const (.bool false)))⟩])
      (.cond (.tmp 75)
       (.both (.seq [⟨(some 76), none, .plain (.mov (.tmp 0))⟩,
          ⟨(some 77), none, .plain (.mov (.tmp 1))⟩,
          ⟨(some 78), none, .plain (.mov (.tmp 2))⟩,
          ⟨(some 79), none, .plain (.mov (.tmp 4))⟩,
          ⟨(some 80), none, .call 56 [(.tmp 76), (.tmp 77), (.tmp 78), (.tmp 79)]⟩])
       (.cond (.tmp 80)
        .ret
        .skip))
       .skip))
     (.both (.both (.draw 0 [⟨0, .pure, 0, ⟨(some 81), none, .plain (.mov (.tmp 1))⟩, [], []⟩,
         ⟨1, .pure, 0, ⟨(some 82), none, .plain (.bin .gtr (.tmp 81) (.const (.int .i64 0)))⟩, [], []⟩,
         ⟨2, .pure, 0, ⟨(some 83), none, .plain (.mov (.tmp 82))⟩, [], []⟩,
         ⟨3, .pure, 0, ⟨(some 84), (some (83, true)), .plain (.mov (.tmp 4))⟩, [], []⟩,
         ⟨4, .pure, 0, ⟨(some 85), (some (83, true)), .plain (.mov (.tmp 0))⟩, [], []⟩,
         ⟨5, .pure, 0, ⟨(some 86), (some (83, true)), .plain (.mov (.tmp 1))⟩, [], []⟩,
         ⟨6, .pure, 0, ⟨(some 87), (some (83, true)), .plain (.bin .sub (.tmp 86) (.const (.int .i64 1)))⟩, [], []⟩,
         ⟨7, .pure, 0, ⟨(some 88), (some (83, true)), .plain (.iaddr none 4 (.tmp 85) (.tmp 87))⟩, [], []⟩,
         ⟨8, .read, 0, ⟨(some 89), (some (83, true)), .plain (.load (some 4) (.tmp 88))⟩, [], []⟩,
         ⟨9, .pure, 0, ⟨(some 90), (some (83, true)), .plain (.mov (.tmp 0))⟩, [], []⟩,
         ⟨10, .pure, 0, ⟨(some 91), (some (83, true)), .plain (.mov (.tmp 13))⟩, [], []⟩,
         ⟨11, .pure, 0, ⟨(some 92), (some (83, true)), .plain (.iaddr none 4 (.tmp 90) (.tmp 91))⟩, [], []⟩,
         ⟨12, .read, 0, ⟨(some 93), (some (83, true)), .plain (.load (some 4) (.tmp 92))⟩, [], []⟩,
         ⟨13, .chain, 0, ⟨(some 94), (some (83, true)), .callv (.tmp 84) [(.tmp 89), (.tmp 93)]⟩, [], []⟩,
         ⟨14, .pure, 0, ⟨(some 95), (some (83, true)), .plain (.bin .lss (.tmp 94) (.const (.int .i64 0)))⟩, [], []⟩,
         ⟨15, .pure, 0, ⟨(some 96), (some (83, true)), .plain (.un .not (.tmp 95))⟩, [], []⟩,
         ⟨16, .pure, 0, ⟨(some 97), none, .plain (.pick (.tmp 83) (.tmp 96) (.const (.bool false)))⟩, [], []⟩])
      (.cond (.tmp 97)
       (.both (.seq [⟨(some 98), none, .plain (.mov (.tmp 0))⟩,
          ⟨(some 99), none, .plain (.mov (.tmp 1))⟩,
          ⟨(some 100), none, .plain (.mov (.tmp 2))⟩,
          ⟨(some 101), none, .plain (.mov (.tmp 13))⟩,
          ⟨(some 102), none, .plain (.mov (.tmp 4))⟩,
          ⟨(some 103), none, .call 57 [(.tmp 98), (.tmp 99), (.tmp 100), (.tmp 101), (.tmp 102)]⟩,
          ⟨(some 15), none, .plain (.mov (.tmp 103))⟩])
       (.both (.seq [⟨(some 104), none, .plain (.mov (.tmp 15))⟩,
          ⟨(some 1), none, .plain (.mov (.tmp 104))⟩])
       (.exit 1)))
       .skip))
     (.both (.seq [⟨(some 106), none, .plain (.mov (.tmp 0))⟩,
        ⟨(some 107), none, .plain (.mov (.tmp 1))⟩,
        ⟨(some 108), none, .plain (.mov (.tmp 2))⟩,
        ⟨(some 109), none, .plain (.mov (.tmp 13))⟩,
        ⟨(some 110), none, .plain (.mov (.tmp 4))⟩,
        ⟨(some 111), none, .call 58 [(.tmp 106), (.tmp 107), (.tmp 108), (.tmp 109), (.tmp 110)]⟩,
        ⟨(some 105), none, .plain (.mov (.tmp 111))⟩,
        ⟨(some 112), none, .plain (.extract (.tmp 105) 0)⟩,
        ⟨(some 113), none, .plain (.extract (.tmp 105) 1)⟩,
        ⟨(some 16), none, .plain (.mov (.tmp 112))⟩,
        ⟨(some 17), none, .plain (.mov (.tmp 113))⟩])
     (.both (.seq [⟨(some 114), none, .plain (.mov (.tmp 17))⟩,
        ⟨(some 11), none, .plain (.mov (.tmp 114))⟩])
     (.both (.seq [⟨(some 115), none, .plain (.mov (.tmp 16))⟩,
        ⟨(some 116), none, .plain (.mov (.tmp 1))⟩,
        ⟨(some 117), none, .plain (.bin .sub (.tmp 115) (.tmp 116))⟩,
        ⟨(some 118), none, .plain (.mov (.tmp 2))⟩,
        ⟨(some 119), none, .plain (.mov (.tmp 16))⟩,
        ⟨(some 120), none, .plain (.bin .sub (.tmp 118) (.tmp 119))⟩,
        ⟨(some 18), none, .plain (.mov (.tmp 117))⟩,
        ⟨(some 19), none, .plain (.mov (.tmp 120))⟩])
     (.both (.seq [⟨(some 121), none, .plain (.mov (.tmp 12))⟩,
        ⟨(some 122), none, .plain (.bin .quo (.tmp 121) (.const (.int .i64 8)))⟩,
        ⟨(some 20), none, .plain (.mov (.tmp 122))⟩])
     (.both (.seq [⟨(some 123), none, .plain (.mov (.tmp 18))⟩,
        ⟨(some 124), none, .plain (.mov (.tmp 19))⟩,
        ⟨(some 125), none, .plain (.bin .lss (.tmp 123) (.tmp 124))⟩])
     (.cond (.tmp 125)
      (.both (.seq [⟨(some 126), none, .plain (.mov (.tmp 18))⟩,
         ⟨(some 127), none, .plain (.mov (.tmp 20))⟩,
         ⟨(some 128), none, .plain (.bin .geq (.tmp 126) (.tmp 127))⟩,
         ⟨(some 10), none, .plain (.mov (.tmp 128))⟩])
      (.both (.seq [⟨(some 129), none, .plain (.mov (.tmp 0))⟩,
         ⟨(some 130), none, .plain (.mov (.tmp 1))⟩,
         ⟨(some 131), none, .plain (.mov (.tmp 16))⟩,
         ⟨(some 132), none, .plain (.mov (.tmp 3))⟩,
         ⟨(some 133), none, .plain (.mov (.tmp 4))⟩,
         ⟨(some 134), none, .call 39 [(.tmp 129), (.tmp 130), (.tmp 131), (.tmp 132), (.tmp 133)]⟩])
      (.seq [⟨(some 135), none, .plain (.mov (.tmp 16))⟩,
        ⟨(some 136), none, .plain (.bin .add (.tmp 135) (.const (.int .i64 1)))⟩,
        ⟨(some 1), none, .plain (.mov (.tmp 136))⟩])))
      (.both (.seq [⟨(some 137), none, .plain (.mov (.tmp 19))⟩,
         ⟨(some 138), none, .plain (.mov (.tmp 20))⟩,
         ⟨(some 139), none, .plain (.bin .geq (.tmp 137) (.tmp 138))⟩,
         ⟨(some 10), none, .plain (.mov (.tmp 139))⟩])
      (.both (.seq [⟨(some 140), none, .plain (.mov (.tmp 0))⟩,
         ⟨(some 141), none, .plain (.mov (.tmp 16))⟩,
         ⟨(some 142), none, .plain (.bin .add (.tmp 141) (.const (.int .i64 1)))⟩,
         ⟨(some 143), none, .plain (.mov (.tmp 2))⟩,
         ⟨(some 144), none, .plain (.mov (.tmp 3))⟩,
         ⟨(some 145), none, .plain (.mov (.tmp 4))⟩,
         ⟨(some 146), none, .call 39 [(.tmp 140), (.tmp 142), (.tmp 143), (.tmp 144), (.tmp 145)]⟩])
      (.seq [⟨(some 147), none, .plain (.mov (.tmp 16))⟩,
        ⟨(some 2), none, .plain (.mov (.tmp 147))⟩]))))))))))))))))))))))⟩
/-- math/bits.Len -/
def a40 : AFunc := ⟨1, [.tmp 2],
  (.both (.seq [⟨(some 2), none, .plain (.mov (.const (.int .i64 0)))⟩])
  (.both (.cond (.const (.bool false))
    (.both (.seq [⟨(some 3), none, .plain (.mov (.tmp 0))⟩,
       ⟨(some 4), none, .plain (.conv (.int .u32) (.tmp 3))⟩,
       ⟨(some 5), none, .call 59 [(.tmp 4)]⟩,
       ⟨(some 2), none, .plain (.mov (.tmp 5))⟩])
    .ret)
    .skip)
  (.both (.seq [⟨(some 6), none, .plain (.mov (.tmp 0))⟩,
     ⟨(some 7), none, .call 60 [(.tmp 6)]⟩,
     ⟨(some 2), none, .plain (.mov (.tmp 7))⟩])
  .ret)))⟩
/-- cmp.isNaN[int64] -/
def a41 : AFunc := ⟨1, [.tmp 2],
  (.both (.seq [⟨(some 2), none, .plain (.mov (.const (.bool false)))⟩])
  (.both (.seq [⟨(some 3), none, .plain (.mov (.tmp 0))⟩,
     ⟨(some 4), none, .plain (.mov (.tmp 0))⟩,
     ⟨(some 5), none, .plain (.bin .neq (.tmp 3) (.tmp 4))⟩,
     ⟨(some 2), none, .plain (.mov (.tmp 5))⟩])
  .ret))⟩
/-- (fettle/extent.Set).All -/
def a42 : AFunc := ⟨1, [.tmp 2],
  (.both (.seq [⟨(some 1), none, .plain (.box (.tmp 0))⟩,
     ⟨(some 2), none, .plain (.mov (.const .nilFunc))⟩])
  (.both (.seq [⟨(some 3), none, .plain (.mkfunc (.func 61) [] [(.tmp 1)])⟩,
     ⟨(some 2), none, .plain (.mov (.tmp 3))⟩])
  .ret))⟩
/-- fettle/mbr.row -/
def a43 : AFunc := ⟨1, [.tmp 2],
  (.both (.seq [⟨(some 2), none, .plain (.mov (.const (.int .i64 0)))⟩])
  (.both (.seq [⟨(some 3), none, .plain (.mov (.tmp 0))⟩,
     ⟨(some 4), none, .plain (.bin .mul (.const (.int .i64 16)) (.tmp 3))⟩,
     ⟨(some 5), none, .plain (.bin .add (.const (.int .i64 446)) (.tmp 4))⟩,
     ⟨(some 2), none, .plain (.mov (.tmp 5))⟩])
  .ret))⟩
/-- fettle/octet.U32 -/
def a44 : AFunc := ⟨2, [.tmp 4, .tmp 5],
  (.both (.seq [⟨(some 4), none, .plain (.mov (.const (.int .u32 0)))⟩,
     ⟨(some 5), none, .plain (.mov (.const (.bool false)))⟩])
  (.both (.seq [⟨(some 6), none, .plain (.mov (.tmp 0))⟩,
     ⟨(some 7), none, .plain (.mov (.tmp 1))⟩,
     ⟨(some 8), none, .call 62 [(.tmp 6), (.tmp 7), (.const (.int .i64 4))]⟩,
     ⟨(some 9), none, .plain (.extract (.tmp 8) 0)⟩,
     ⟨(some 10), none, .plain (.extract (.tmp 8) 1)⟩,
     ⟨(some 4), none, .plain (.mov (.tmp 9))⟩,
     ⟨(some 5), none, .plain (.mov (.tmp 10))⟩])
  .ret))⟩
/-- (fettle/extent.Set).Bytes -/
def a45 : AFunc := ⟨1, [.tmp 2],
  (.both (.seq [⟨(some 2), none, .plain (.mov (.const (.int .i64 0)))⟩])
  (.both (.seq [⟨(some 3), none, .plain (.alloc [(.int .i64 0)])⟩,
     ⟨none, none, .plain (.store 1 (.tmp 3) (.const (.int .i64 0)))⟩])
  (.both (.both (.seq [⟨(some 6), none, .plain (.mov (.tmp 0))⟩,
      ⟨(some 7), none, .call 42 [(.tmp 6)]⟩])
   (.block 0 (.rangeF (.tmp 7) [8, 9]
     (.seq [⟨(some 5), none, .plain (.alloc [(.int .i64 0), (.int .i64 0)])⟩,
       ⟨none, none, .plain (.store 2 (.tmp 5) (.tmp 9))⟩])
     (.block 1 (.seq [⟨(some 10), none, .plain (.load none (.tmp 3))⟩,
        ⟨(some 11), none, .plain (.faddr 1 (.tmp 5))⟩,
        ⟨(some 12), none, .plain (.load none (.tmp 11))⟩,
        ⟨(some 13), none, .plain (.faddr 0 (.tmp 5))⟩,
        ⟨(some 14), none, .plain (.load none (.tmp 13))⟩,
        ⟨(some 15), none, .plain (.bin .sub (.tmp 12) (.tmp 14))⟩,
        ⟨(some 16), none, .plain (.bin .add (.tmp 10) (.tmp 15))⟩,
        ⟨none, none, .plain (.store 1 (.tmp 3) (.tmp 16))⟩])))))
  (.both (.seq [⟨(some 17), none, .plain (.load none (.tmp 3))⟩,
     ⟨(some 2), none, .plain (.mov (.tmp 17))⟩])
  .ret))))⟩
/-- slices.pdqsortCmpFunc[fettle/api.Ext] -/
def a46 : AFunc := ⟨5, [],
  (.both (.seq [⟨(some 10), none, .plain (.mov (.const (.bool true)))⟩])
  (.both (.seq [⟨(some 11), none, .plain (.mov (.const (.bool true)))⟩])
  (.block 0 (.loop (.block 1 (.both (.seq [⟨(some 21), none, .plain (.mov (.tmp 2))⟩,
        ⟨(some 22), none, .plain (.mov (.tmp 1))⟩,
        ⟨(some 23), none, .plain (.bin .sub (.tmp 21) (.tmp 22))⟩,
        ⟨(some 12), none, .plain (.mov (.tmp 23))⟩])
     (.both (.both (.seq [⟨(some 24), none, .plain (.mov (.tmp 12))⟩,
         ⟨(some 25), none, .plain (.bin .leq (.tmp 24) (.const (.int .i64 12)))⟩])
      (.cond (.tmp 25)
       (.both (.seq [⟨(some 26), none, .plain (.mov (.tmp 0))⟩,
          ⟨(some 27), none, .plain (.mov (.tmp 1))⟩,
          ⟨(some 28), none, .plain (.mov (.tmp 2))⟩,
          ⟨(some 29), none, .plain (.mov (.tmp 4))⟩,
          ⟨(some 30), none, .call 63 [(.tmp 26), (.tmp 27), (.tmp 28), (.tmp 29)]⟩])
       .ret)
       .skip))
     (.both (.both (.seq [⟨(some 31), none, .plain (.mov (.tmp 3))⟩,
         ⟨(some 32), none, .plain (.bin .eql (.tmp 31) (.const (.int .i64 0)))⟩])
      (.cond (.tmp 32)
       (.both (.seq [⟨(some 33), none, .plain (.mov (.tmp 0))⟩,
          ⟨(some 34), none, .plain (.mov (.tmp 1))⟩,
          ⟨(some 35), none, .plain (.mov (.tmp 2))⟩,
          ⟨(some 36), none, .plain (.mov (.tmp 4))⟩,
          ⟨(some 37), none, .call 64 [(.tmp 33), (.tmp 34), (.tmp 35), (.tmp 36)]⟩])
       .ret)
       .skip))
     (.both (.both (.seq [⟨(some 38), none, .plain (.mov (.tmp 10))⟩,
         ⟨(some 39), none, .plain (.un .not (.tmp 38))⟩])
      (.cond (.tmp 39)
       (.both (.seq [⟨(some 40), none, .plain (.mov (.tmp 0))⟩,
          ⟨(some 41), none, .plain (.mov (.tmp 1))⟩,
          ⟨(some 42), none, .plain (.mov (.tmp 2))⟩,
          ⟨(some 43), none, .plain (.mov (.tmp 4))⟩,
          ⟨(some 44), none, .call 65 [(.tmp 40), (.tmp 41), (.tmp 42), (.tmp 43)]⟩])
       (.seq [⟨(some 45), none, .plain (.mov (.tmp 3))⟩,
         ⟨(some 46), none, .plain (.bin .sub (.tmp 45) (.const (.int .i64 1)))⟩,
         ⟨(some 3), none, .plain (.mov (.tmp 46))⟩]))
       .skip))
     (.both (.seq [⟨(some 48), none, .plain (.mov (.tmp 0))⟩,
        ⟨(some 49), none, .plain (.mov (.tmp 1))⟩,
        ⟨(some 50), none, .plain (.mov (.tmp 2))⟩,
        ⟨(some 51), none, .plain (.mov (.tmp 4))⟩,
        ⟨(some 52), none, .call 66 [(.tmp 48), (.tmp 49), (.tmp 50), (.tmp 51)]⟩,
        ⟨(some 47), none, .plain (.mov (.tmp 52))⟩,
        ⟨(some 53), none, .plain (.extract (.tmp 47) 0)⟩,
        ⟨(some 54), none, .plain (.extract (.tmp 47) 1)⟩,
        ⟨(some 13), none, .plain (.mov (.tmp 53))⟩,
        ⟨(some 14), none, .plain (.mov (.tmp 54))⟩])
     (.both (.both (.seq [⟨(some 55), none, .plain (.mov (.tmp 14))⟩,
         ⟨(some 56), none, .plain (.bin .eql (.tmp 55) (.const (.int .i64 2)))⟩])
      (.cond (.tmp 56)
       (.both (.seq [⟨(some 57), none, .plain (.mov (.tmp 0))⟩,
          ⟨(some 58), none, .plain (.mov (.tmp 1))⟩,
          ⟨(some 59), none, .plain (.mov (.tmp 2))⟩,
          ⟨(some 60), none, .plain (.mov (.tmp 4))⟩,
          ⟨(some 61), none, .call 67 [(.tmp 57), (.tmp 58), (.tmp 59), (.tmp 60)]⟩])
       (.both (.seq [⟨(some 62), none, .plain (.mov (.tmp 2))⟩,
          ⟨(some 63), none, .plain (.bin .sub (.tmp 62) (.const (.int .i64 1)))⟩,
          ⟨(some 64), none, .plain (.mov (.tmp 13))⟩,
          ⟨(some 65), none, .plain (.mov (.tmp 1))⟩,
          ⟨(some 66), none, .plain (.bin .sub (.tmp 64) (.tmp 65))⟩,
          ⟨(some 67), none, .plain (.bin .sub (.tmp 63) (.tmp 66))⟩,
          ⟨(some 13), none, .plain (.mov (.tmp 67))⟩])
       (.seq [⟨(some 14), none, .plain (.mov (.const (.int .i64 1)))⟩])))
       .skip))
     (.both (.both (.seq [⟨(some 68), none, .plain (.mov (.tmp 10))⟩,
         ⟨(some 69), none, .plain (.mov (.tmp 68))⟩,
         ⟨(some 70), (some (69, true)), .plain (.mov (.tmp 11))⟩,
         ⟨(some 71), none, .plain (.pick (.tmp 69) (.tmp 70) (.const (.bool false)))⟩,
         ⟨(some 72), none, .plain (.mov (.tmp 71))⟩,
         ⟨(some 73), (some (72, true)), .plain (.mov (.tmp 14))⟩,
         ⟨(some 74), (some (72, true)), .plain (.bin .eql (.tmp 73) (.const (.int .i64 1)))⟩,
         ⟨(some 75), none, .plain (.pick (.tmp 72) (.tmp 74) (.const (.bool false)))⟩])
      (.cond (.tmp 75)
       (.both (.seq [⟨(some 76), none, .plain (.mov (.tmp 0))⟩,
          ⟨(some 77), none, .plain (.mov (.tmp 1))⟩,
          ⟨(some 78), none, .plain (.mov (.tmp 2))⟩,
          ⟨(some 79), none, .plain (.mov (.tmp 4))⟩,
          ⟨(some 80), none, .call 68 [(.tmp 76), (.tmp 77), (.tmp 78), (.tmp 79)]⟩])
       (.cond (.tmp 80)
        .ret
        .skip))
       .skip))
     (.both (.both (.draw 0 [⟨0, .pure, 0, ⟨(some 81), none, .plain (.mov (.tmp 1))⟩, [], []⟩,
         ⟨1, .pure, 0, ⟨(some 82), none, .plain (.bin .gtr (.tmp 81) (.const (.int .i64 0)))⟩, [], []⟩,
         ⟨2, .pure, 0, ⟨(some 83), none, .plain (.mov (.tmp 82))⟩, [], []⟩,
         ⟨3, .pure, 0, ⟨(some 84), (some (83, true)), .plain (.mov (.tmp 4))⟩, [], []⟩,
         ⟨4, .pure, 0, ⟨(some 85), (some (83, true)), .plain (.mov (.tmp 0))⟩, [], []⟩,
         ⟨5, .pure, 0, ⟨(some 86), (some (83, true)), .plain (.mov (.tmp 1))⟩, [], []⟩,
         ⟨6, .pure, 0, ⟨(some 87), (some (83, true)), .plain (.bin .sub (.tmp 86) (.const (.int .i64 1)))⟩, [], []⟩,
         ⟨7, .pure, 0, ⟨(some 88), (some (83, true)), .plain (.iaddr none 2 (.tmp 85) (.tmp 87))⟩, [], []⟩,
         ⟨8, .read, 0, ⟨(some 89), (some (83, true)), .plain (.load (some 2) (.tmp 88))⟩, [], []⟩,
         ⟨9, .pure, 0, ⟨(some 90), (some (83, true)), .plain (.mov (.tmp 0))⟩, [], []⟩,
         ⟨10, .pure, 0, ⟨(some 91), (some (83, true)), .plain (.mov (.tmp 13))⟩, [], []⟩,
         ⟨11, .pure, 0, ⟨(some 92), (some (83, true)), .plain (.iaddr none 2 (.tmp 90) (.tmp 91))⟩, [], []⟩,
         ⟨12, .read, 0, ⟨(some 93), (some (83, true)), .plain (.load (some 2) (.tmp 92))⟩, [], []⟩,
         ⟨13, .chain, 0, ⟨(some 94), (some (83, true)), .callv (.tmp 84) [(.tmp 89), (.tmp 93)]⟩, [], []⟩,
         ⟨14, .pure, 0, ⟨(some 95), (some (83, true)), .plain (.bin .lss (.tmp 94) (.const (.int .i64 0)))⟩, [], []⟩,
         ⟨15, .pure, 0, ⟨(some 96), (some (83, true)), .plain (.un .not (.tmp 95))⟩, [], []⟩,
         ⟨16, .pure, 0, ⟨(some 97), none, .plain (.pick (.tmp 83) (.tmp 96) (.const (.bool false)))⟩, [], []⟩])
      (.cond (.tmp 97)
       (.both (.seq [⟨(some 98), none, .plain (.mov (.tmp 0))⟩,
          ⟨(some 99), none, .plain (.mov (.tmp 1))⟩,
          ⟨(some 100), none, .plain (.mov (.tmp 2))⟩,
          ⟨(some 101), none, .plain (.mov (.tmp 13))⟩,
          ⟨(some 102), none, .plain (.mov (.tmp 4))⟩,
          ⟨(some 103), none, .call 69 [(.tmp 98), (.tmp 99), (.tmp 100), (.tmp 101), (.tmp 102)]⟩,
          ⟨(some 15), none, .plain (.mov (.tmp 103))⟩])
       (.both (.seq [⟨(some 104), none, .plain (.mov (.tmp 15))⟩,
          ⟨(some 1), none, .plain (.mov (.tmp 104))⟩])
       (.exit 1)))
       .skip))
     (.both (.seq [⟨(some 106), none, .plain (.mov (.tmp 0))⟩,
        ⟨(some 107), none, .plain (.mov (.tmp 1))⟩,
        ⟨(some 108), none, .plain (.mov (.tmp 2))⟩,
        ⟨(some 109), none, .plain (.mov (.tmp 13))⟩,
        ⟨(some 110), none, .plain (.mov (.tmp 4))⟩,
        ⟨(some 111), none, .call 70 [(.tmp 106), (.tmp 107), (.tmp 108), (.tmp 109), (.tmp 110)]⟩,
        ⟨(some 105), none, .plain (.mov (.tmp 111))⟩,
        ⟨(some 112), none, .plain (.extract (.tmp 105) 0)⟩,
        ⟨(some 113), none, .plain (.extract (.tmp 105) 1)⟩,
        ⟨(some 16), none, .plain (.mov (.tmp 112))⟩,
        ⟨(some 17), none, .plain (.mov (.tmp 113))⟩])
     (.both (.seq [⟨(some 114), none, .plain (.mov (.tmp 17))⟩,
        ⟨(some 11), none, .plain (.mov (.tmp 114))⟩])
     (.both (.seq [⟨(some 115), none, .plain (.mov (.tmp 16))⟩,
        ⟨(some 116), none, .plain (.mov (.tmp 1))⟩,
        ⟨(some 117), none, .plain (.bin .sub (.tmp 115) (.tmp 116))⟩,
        ⟨(some 118), none, .plain (.mov (.tmp 2))⟩,
        ⟨(some 119), none, .plain (.mov (.tmp 16))⟩,
        ⟨(some 120), none, .plain (.bin .sub (.tmp 118) (.tmp 119))⟩,
        ⟨(some 18), none, .plain (.mov (.tmp 117))⟩,
        ⟨(some 19), none, .plain (.mov (.tmp 120))⟩])
     (.both (.seq [⟨(some 121), none, .plain (.mov (.tmp 12))⟩,
        ⟨(some 122), none, .plain (.bin .quo (.tmp 121) (.const (.int .i64 8)))⟩,
        ⟨(some 20), none, .plain (.mov (.tmp 122))⟩])
     (.both (.seq [⟨(some 123), none, .plain (.mov (.tmp 18))⟩,
        ⟨(some 124), none, .plain (.mov (.tmp 19))⟩,
        ⟨(some 125), none, .plain (.bin .lss (.tmp 123) (.tmp 124))⟩])
     (.cond (.tmp 125)
      (.both (.seq [⟨(some 126), none, .plain (.mov (.tmp 18))⟩,
         ⟨(some 127), none, .plain (.mov (.tmp 20))⟩,
         ⟨(some 128), none, .plain (.bin .geq (.tmp 126) (.tmp 127))⟩,
         ⟨(some 10), none, .plain (.mov (.tmp 128))⟩])
      (.both (.seq [⟨(some 129), none, .plain (.mov (.tmp 0))⟩,
         ⟨(some 130), none, .plain (.mov (.tmp 1))⟩,
         ⟨(some 131), none, .plain (.mov (.tmp 16))⟩,
         ⟨(some 132), none, .plain (.mov (.tmp 3))⟩,
         ⟨(some 133), none, .plain (.mov (.tmp 4))⟩,
         ⟨(some 134), none, .call 46 [(.tmp 129), (.tmp 130), (.tmp 131), (.tmp 132), (.tmp 133)]⟩])
      (.seq [⟨(some 135), none, .plain (.mov (.tmp 16))⟩,
        ⟨(some 136), none, .plain (.bin .add (.tmp 135) (.const (.int .i64 1)))⟩,
        ⟨(some 1), none, .plain (.mov (.tmp 136))⟩])))
      (.both (.seq [⟨(some 137), none, .plain (.mov (.tmp 19))⟩,
         ⟨(some 138), none, .plain (.mov (.tmp 20))⟩,
         ⟨(some 139), none, .plain (.bin .geq (.tmp 137) (.tmp 138))⟩,
         ⟨(some 10), none, .plain (.mov (.tmp 139))⟩])
      (.both (.seq [⟨(some 140), none, .plain (.mov (.tmp 0))⟩,
         ⟨(some 141), none, .plain (.mov (.tmp 16))⟩,
         ⟨(some 142), none, .plain (.bin .add (.tmp 141) (.const (.int .i64 1)))⟩,
         ⟨(some 143), none, .plain (.mov (.tmp 2))⟩,
         ⟨(some 144), none, .plain (.mov (.tmp 3))⟩,
         ⟨(some 145), none, .plain (.mov (.tmp 4))⟩,
         ⟨(some 146), none, .call 46 [(.tmp 140), (.tmp 142), (.tmp 143), (.tmp 144), (.tmp 145)]⟩])
      (.seq [⟨(some 147), none, .plain (.mov (.tmp 16))⟩,
        ⟨(some 2), none, .plain (.mov (.tmp 147))⟩]))))))))))))))))))))))⟩
/-- slices.insertionSortCmpFunc[fettle/api.Part] -/
def a51 : AFunc := ⟨4, [],
  (.both (.seq [⟨(some 10), none, .plain (.mov (.tmp 1))⟩,
     ⟨(some 11), none, .plain (.bin .add (.tmp 10) (.const (.int .i64 1)))⟩,
     ⟨(some 8), none, .plain (.mov (.tmp 11))⟩])
  (.block 0 (.loop (.both (.both (.seq [⟨(some 12), none, .plain (.mov (.tmp 8))⟩,
        ⟨(some 13), none, .plain (.mov (.tmp 2))⟩,
        ⟨(some 14), none, .plain (.bin .lss (.tmp 12) (.tmp 13))⟩])
     (.cond (.tmp 14)
      .skip
      (.exit 0)))
    (.both (.block 1 (.both (.seq [⟨(some 17), none, .plain (.mov (.tmp 8))⟩,
         ⟨(some 9), none, .plain (.mov (.tmp 17))⟩])
      (.block 2 (.loop (.both (.both (.draw 0 [⟨0, .pure, 0, ⟨(some 18), none, .plain (.mov (.tmp 9))⟩, [], []⟩,
            ⟨1, .pure, 0, ⟨(some 19), none, .plain (.mov (.tmp 1))⟩, [], []⟩,
            ⟨2, .pure, 0, ⟨(some 20), none, .plain (.bin .gtr (.tmp 18) (.tmp 19))⟩, [], []⟩,
            ⟨3, .pure, 0, ⟨(some 21), none, .plain (.mov (.tmp 20))⟩, [], []⟩,
            ⟨4, .pure, 0, ⟨(some 22), (some (21, true)), .plain (.mov (.tmp 3))⟩, [], []⟩,
            ⟨5, .pure, 0, ⟨(some 23), (some (21, true)), .plain (.mov (.tmp 0))⟩, [], []⟩,
            ⟨6, .pure, 0, ⟨(some 24), (some (21, true)), .plain (.mov (.tmp 9))⟩, [], []⟩,
            ⟨7, .pure, 0, ⟨(some 25), (some (21, true)), .plain (.iaddr none 4 (.tmp 23) (.tmp 24))⟩, [], []⟩,
            ⟨8, .read, 0, ⟨(some 26), (some (21, true)), .plain (.load (some 4) (.tmp 25))⟩, [], []⟩,
            ⟨9, .pure, 0, ⟨(some 27), (some (21, true)), .plain (.mov (.tmp 0))⟩, [], []⟩,
            ⟨10, .pure, 0, ⟨(some 28), (some (21, true)), .plain (.mov (.tmp 9))⟩, [], []⟩,
            ⟨11, .pure, 0, ⟨(some 29), (some (21, true)), .plain (.bin .sub (.tmp 28) (.const (.int .i64 1)))⟩, [], []⟩,
            ⟨12, .pure, 0, ⟨(some 30), (some (21, true)), .plain (.iaddr none 4 (.tmp 27) (.tmp 29))⟩, [], []⟩,
            ⟨13, .read, 0, ⟨(some 31), (some (21, true)), .plain (.load (some 4) (.tmp 30))⟩, [], []⟩,
            ⟨14, .chain, 0, ⟨(some 32), (some (21, true)), .callv (.tmp 22) [(.tmp 26), (.tmp 31)]⟩, [], []⟩,
            ⟨15, .pure, 0, ⟨(some 33), (some (21, true)), .plain (.bin .lss (.tmp 32) (.const (.int .i64 0)))⟩, [], []⟩,
            ⟨16, .pure, 0, ⟨(some 34), none, .plain (.pick (.tmp 21) (.tmp 33) (.const (.bool false)))⟩, [], []⟩])
         (.cond (.tmp 34)
          .skip
          (.exit 2)))
        (.both (.block 3 (.draw 0 [⟨0, .pure, 0, ⟨(some 37), none, .plain (.mov (.tmp 0))⟩, [], []⟩,
            ⟨1, .pure, 0, ⟨(some 38), none, .plain (.mov (.tmp 9))⟩, [], []⟩,
            ⟨2, .pure, 0, ⟨(some 39), none, .plain (.mov (.tmp 0))⟩, [], []⟩,
            ⟨3, .pure, 0, ⟨(some 40), none, .plain (.mov (.tmp 9))⟩, [], []⟩,
            ⟨4, .pure, 0, ⟨(some 41), none, .plain (.bin .sub (.tmp 40) (.const (.int .i64 1)))⟩, [], []⟩,
            ⟨5, .pure, 0, ⟨(some 42), none, .plain (.mov (.tmp 0))⟩, [], []⟩,
            ⟨6, .pure, 0, ⟨(some 43), none, .plain (.mov (.tmp 9))⟩, [], []⟩,
            ⟨7, .pure, 0, ⟨(some 44), none, .plain (.bin .sub (.tmp 43) (.const (.int .i64 1)))⟩, [], []⟩,
            ⟨8, .pure, 0, ⟨(some 45), none, .plain (.iaddr none 4 (.tmp 42) (.tmp 44))⟩, [], []⟩,
            ⟨9, .read, 0, ⟨(some 46), none, .plain (.load (some 4) (.tmp 45))⟩, [], []⟩,
            ⟨10, .pure, 0, ⟨(some 47), none, .plain (.mov (.tmp 0))⟩, [], []⟩,
            ⟨11, .pure, 0, ⟨(some 48), none, .plain (.mov (.tmp 9))⟩, [], []⟩,
            ⟨12, .pure, 0, ⟨(some 49), none, .plain (.iaddr none 4 (.tmp 47) (.tmp 48))⟩, [], []⟩,
            ⟨13, .read, 0, ⟨(some 50), none, .plain (.load (some 4) (.tmp 49))⟩, [], []⟩,
            ⟨14, .pure, 0, ⟨(some 51), none, .plain (.iaddr none 4 (.tmp 37) (.tmp 38))⟩, [], []⟩,
            ⟨15, .chain, 0, ⟨none, none, .plain (.store 4 (.tmp 51) (.tmp 46))⟩, [], []⟩,
            ⟨16, .pure, 0, ⟨(some 52), none, .plain (.iaddr none 4 (.tmp 39) (.tmp 41))⟩, [], []⟩,
            ⟨17, .chain, 0, ⟨none, none, .plain (.store 4 (.tmp 52) (.tmp 50))⟩, [], []⟩]))
        (.seq [⟨(some 35), none, .plain (.mov (.tmp 9))⟩,
          ⟨(some 36), none, .plain (.bin .sub (.tmp 35) (.const (.int .i64 1)))⟩,
          ⟨(some 9), none, .plain (.mov (.tmp 36))⟩])))))))
    (.seq [⟨(some 15), none, .plain (.mov (.tmp 8))⟩,
      ⟨(some 16), none, .plain (.bin .add (.tmp 15) (.const (.int .i64 1)))⟩,
      ⟨(some 8), none, .plain (.mov (.tmp 16))⟩]))))))⟩
/-- math/bits.Len64 -/
def a60 : AFunc := ⟨1, [.tmp 2],
  (.both (.seq [⟨(some 2), none, .plain (.mov (.const (.int .i64 0)))⟩])
  (.both (.both (.seq [⟨(some 3), none, .plain (.mov (.tmp 0))⟩,
      ⟨(some 4), none, .plain (.bin .geq (.tmp 3) (.const (.int .u64 4294967296)))⟩])
   (.cond (.tmp 4)
    (.both (.seq [⟨(some 5), none, .plain (.mov (.tmp 0))⟩,
       ⟨(some 6), none, .plain (.bin .shr (.tmp 5) (.const (.int .u64 32)))⟩,
       ⟨(some 0), none, .plain (.mov (.tmp 6))⟩])
    (.seq [⟨(some 2), none, .plain (.mov (.const (.int .i64 32)))⟩]))
    .skip))
  (.both (.both (.seq [⟨(some 7), none, .plain (.mov (.tmp 0))⟩,
      ⟨(some 8), none, .plain (.bin .geq (.tmp 7) (.const (.int .u64 65536)))⟩])
   (.cond (.tmp 8)
    (.both (.seq [⟨(some 9), none, .plain (.mov (.tmp 0))⟩,
       ⟨(some 10), none, .plain (.bin .shr (.tmp 9) (.const (.int .u64 16)))⟩,
       ⟨(some 0), none, .plain (.mov (.tmp 10))⟩])
    (.seq [⟨(some 11), none, .plain (.mov (.tmp 2))⟩,
      ⟨(some 12), none, .plain (.bin .add (.tmp 11) (.const (.int .i64 16)))⟩,
      ⟨(some 2), none, .plain (.mov (.tmp 12))⟩]))
    .skip))
  (.both (.both (.seq [⟨(some 13), none, .plain (.mov (.tmp 0))⟩,
      ⟨(some 14), none, .plain (.bin .geq (.tmp 13) (.const (.int .u64 256)))⟩])
   (.cond (.tmp 14)
    (.both (.seq [⟨(some 15), none, .plain (.mov (.tmp 0))⟩,
       ⟨(some 16), none, .plain (.bin .shr (.tmp 15) (.const (.int .u64 8)))⟩,
       ⟨(some 0), none, .plain (.mov (.tmp 16))⟩])
    (.seq [⟨(some 17), none, .plain (.mov (.tmp 2))⟩,
      ⟨(some 18), none, .plain (.bin .add (.tmp 17) (.const (.int .i64 8)))⟩,
      ⟨(some 2), none, .plain (.mov (.tmp 18))⟩]))
    .skip))
  (.both (.seq [⟨(some 19), none, .plain (.mov (.tmp 2))⟩,
     ⟨(some 20), none, .plain (.mov (.tmp 0))⟩,
     ⟨(some 21), none, .plain (.conv (.int .u8) (.tmp 20))⟩,
     ⟨(some 22), none, .plain (.index .str (.const (.string ⟨#[0, 1, 2, 2, 3, 3, 3, 3, 4, 4, 4, 4, 4, 4, 4, 4, 5, 5, 5, 5, 5, 5, 5, 5, 5, 5, 5, 5, 5, 5, 5, 5, 6, 6, 6, 6, 6, 6, 6, 6, 6, 6, 6, 6, 6, 6, 6, 6, 6, 6, 6, 6, 6, 6, 6, 6, 6, 6, 6, 6, 6, 6, 6, 6, 7, 7, 7, 7, 7, 7, 7, 7, 7, 7, 7, 7, 7, 7, 7, 7, 7, 7, 7, 7, 7, 7, 7, 7, 7, 7, 7, 7, 7, 7, 7, 7, 7, 7, 7, 7, 7, 7, 7, 7, 7, 7, 7, 7, 7, 7, 7, 7, 7, 7, 7, 7, 7, 7, 7, 7, 7, 7, 7, 7, 7, 7, 7, 7, 8, 8, 8, 8, 8, 8, 8, 8, 8, 8, 8, 8, 8, 8, 8, 8, 8, 8, 8, 8, 8, 8, 8, 8, 8, 8, 8, 8, 8, 8, 8, 8, 8, 8, 8, 8, 8, 8, 8, 8, 8, 8, 8, 8, 8, 8, 8, 8, 8, 8, 8, 8, 8, 8, 8, 8, 8, 8, 8, 8, 8, 8, 8, 8, 8, 8, 8, 8, 8, 8, 8, 8, 8, 8, 8, 8, 8, 8, 8, 8, 8, 8, 8, 8, 8, 8, 8, 8, 8, 8, 8, 8, 8, 8, 8, 8, 8, 8, 8, 8, 8, 8, 8, 8, 8, 8, 8, 8, 8, 8, 8, 8, 8, 8, 8, 8, 8, 8, 8, 8, 8, 8, 8, 8, 8, 8, 8, 8]⟩)) (.tmp 21))⟩,
     ⟨(some 23), none, .plain (.conv (.int .i64) (.tmp 22))⟩,
     ⟨(some 24), none, .plain (.bin .add (.tmp 19) (.tmp 23))⟩,
     ⟨(some 2), none, .plain (.mov (.tmp 24))⟩])
  .ret)))))⟩
/-- (fettle/extent.Set).All$1 -/
def a61 : AFunc := ⟨2, [],
  (.both (.seq [⟨(some 5), none, .plain (.load none (.tmp 1))⟩,
     ⟨(some 6), none, .call 15 [(.tmp 5)]⟩,
     ⟨(some 7), none, .plain (.len .sl (.tmp 6))⟩,
     ⟨(some 8), none, .plain (.mov (.const (.int .i64 0)))⟩])
  (.block 0 (.loop (.both (.seq [⟨(some 9), none, .plain (.bin .lss (.tmp 8) (.tmp 7))⟩])
    (.both (.cond (.tmp 9)
      .skip
      (.exit 0))
    (.both (.block 1 (.both (.seq [⟨(some 10), none, .plain (.mov (.tmp 8))⟩,
         ⟨(some 11), none, .plain (.iaddr none 2 (.tmp 6) (.tmp 8))⟩,
         ⟨(some 12), none, .plain (.load (some 2) (.tmp 11))⟩,
         ⟨(some 4), none, .plain (.alloc [(.int .i64 0), (.int .i64 0)])⟩,
         ⟨(some 3), none, .plain (.mov (.tmp 10))⟩,
         ⟨none, none, .plain (.store 2 (.tmp 4) (.tmp 12))⟩])
      (.both (.seq [⟨(some 13), none, .plain (.mov (.tmp 0))⟩,
         ⟨(some 14), none, .plain (.mov (.tmp 3))⟩,
         ⟨(some 15), none, .plain (.load (some 2) (.tmp 4))⟩,
         ⟨(some 16), none, .callv (.tmp 13) [(.tmp 14), (.tmp 15)]⟩,
         ⟨(some 17), none, .plain (.un .not (.tmp 16))⟩])
      (.cond (.tmp 17)
       .ret
       .skip))))
    (.seq [⟨(some 18), none, .plain (.bin .add (.tmp 8) (.const (.int .i64 1)))⟩,
      ⟨(some 8), none, .plain (.mov (.tmp 18))⟩])))))))⟩
/-- fettle/octet.little[uint32] -/
def a62 : AFunc := ⟨3, [.tmp 6, .tmp 7],
  (.both (.seq [⟨(some 6), none, .plain (.mov (.const (.int .u32 0)))⟩,
     ⟨(some 7), none, .plain (.mov (.const (.bool false)))⟩])
  (.both (.seq [⟨(some 8), none, .plain (.mov (.const (.int .u32 0)))⟩])
  (.both (.both (.seq [⟨(some 10), none, .plain (.mov (.tmp 0))⟩,
      ⟨(some 11), none, .plain (.mov (.tmp 1))⟩,
      ⟨(some 12), none, .plain (.mov (.tmp 2))⟩,
      ⟨(some 13), none, .call 79 [(.tmp 10), (.tmp 11), (.tmp 12)]⟩,
      ⟨(some 14), none, .plain (.un .not (.tmp 13))⟩])
   (.cond (.tmp 14)
    (.both (.seq [⟨(some 6), none, .plain (.mov (.const (.int .u32 0)))⟩,
       ⟨(some 7), none, .plain (.mov (.const (.bool false)))⟩])
    .ret)
    .skip))
  (.both (.both (.seq [⟨(some 15), none, .plain (.mov (.tmp 2))⟩,
      ⟨(some 16), none, .plain (.bin .sub (.tmp 15) (.const (.int .i64 1)))⟩,
      ⟨(some 9), none, .plain (.mov (.tmp 16))⟩])
   (.block 0 (.loop (.both (.both (.seq [⟨(some 17), none, .plain (.mov (.tmp 9))⟩,
         ⟨(some 18), none, .plain (.bin .geq (.tmp 17) (.const (.int .i64 0)))⟩])
      (.cond (.tmp 18)
       .skip
       (.exit 0)))
     (.both (.block 1 (.seq [⟨(some 21), none, .plain (.mov (.tmp 8))⟩,
         ⟨(some 22), none, .plain (.bin .shl (.tmp 21) (.const (.int .u64 8)))⟩,
         ⟨(some 23), none, .plain (.mov (.tmp 0))⟩,
         ⟨(some 24), none, .plain (.mov (.tmp 1))⟩,
         ⟨(some 25), none, .plain (.mov (.tmp 9))⟩,
         ⟨(some 26), none, .plain (.bin .add (.tmp 24) (.tmp 25))⟩,
         ⟨(some 27), none, .plain (.iaddr none 1 (.tmp 23) (.tmp 26))⟩,
         ⟨(some 28), none, .plain (.load none (.tmp 27))⟩,
         ⟨(some 29), none, .plain (.conv (.int .u32) (.tmp 28))⟩,
         ⟨(some 30), none, .plain (.bin .or (.tmp 22) (.tmp 29))⟩,
         ⟨(some 8), none, .plain (.mov (.tmp 30))⟩]))
     (.seq [⟨(some 19), none, .plain (.mov (.tmp 9))⟩,
       ⟨(some 20), none, .plain (.bin .sub (.tmp 19) (.const (.int .i64 1)))⟩,
       ⟨(some 9), none, .plain (.mov (.tmp 20))⟩]))))))
  (.both (.seq [⟨(some 31), none, .plain (.mov (.tmp 8))⟩,
     ⟨(some 6), none, .plain (.mov (.tmp 31))⟩,
     ⟨(some 7), none, .plain (.mov (.const (.bool true)))⟩])
  .ret)))))⟩
/-- slices.insertionSortCmpFunc[fettle/api.Ext] -/
def a63 : AFunc := ⟨4, [],
  (.both (.seq [⟨(some 10), none, .plain (.mov (.tmp 1))⟩,
     ⟨(some 11), none, .plain (.bin .add (.tmp 10) (.const (.int .i64 1)))⟩,
     ⟨(some 8), none, .plain (.mov (.tmp 11))⟩])
  (.block 0 (.loop (.both (.both (.seq [⟨(some 12), none, .plain (.mov (.tmp 8))⟩,
        ⟨(some 13), none, .plain (.mov (.tmp 2))⟩,
        ⟨(some 14), none, .plain (.bin .lss (.tmp 12) (.tmp 13))⟩])
     (.cond (.tmp 14)
      .skip
      (.exit 0)))
    (.both (.block 1 (.both (.seq [⟨(some 17), none, .plain (.mov (.tmp 8))⟩,
         ⟨(some 9), none, .plain (.mov (.tmp 17))⟩])
      (.block 2 (.loop (.both (.both (.draw 0 [⟨0, .pure, 0, ⟨(some 18), none, .plain (.mov (.tmp 9))⟩, [], []⟩,
            ⟨1, .pure, 0, ⟨(some 19), none, .plain (.mov (.tmp 1))⟩, [], []⟩,
            ⟨2, .pure, 0, ⟨(some 20), none, .plain (.bin .gtr (.tmp 18) (.tmp 19))⟩, [], []⟩,
            ⟨3, .pure, 0, ⟨(some 21), none, .plain (.mov (.tmp 20))⟩, [], []⟩,
            ⟨4, .pure, 0, ⟨(some 22), (some (21, true)), .plain (.mov (.tmp 3))⟩, [], []⟩,
            ⟨5, .pure, 0, ⟨(some 23), (some (21, true)), .plain (.mov (.tmp 0))⟩, [], []⟩,
            ⟨6, .pure, 0, ⟨(some 24), (some (21, true)), .plain (.mov (.tmp 9))⟩, [], []⟩,
            ⟨7, .pure, 0, ⟨(some 25), (some (21, true)), .plain (.iaddr none 2 (.tmp 23) (.tmp 24))⟩, [], []⟩,
            ⟨8, .read, 0, ⟨(some 26), (some (21, true)), .plain (.load (some 2) (.tmp 25))⟩, [], []⟩,
            ⟨9, .pure, 0, ⟨(some 27), (some (21, true)), .plain (.mov (.tmp 0))⟩, [], []⟩,
            ⟨10, .pure, 0, ⟨(some 28), (some (21, true)), .plain (.mov (.tmp 9))⟩, [], []⟩,
            ⟨11, .pure, 0, ⟨(some 29), (some (21, true)), .plain (.bin .sub (.tmp 28) (.const (.int .i64 1)))⟩, [], []⟩,
            ⟨12, .pure, 0, ⟨(some 30), (some (21, true)), .plain (.iaddr none 2 (.tmp 27) (.tmp 29))⟩, [], []⟩,
            ⟨13, .read, 0, ⟨(some 31), (some (21, true)), .plain (.load (some 2) (.tmp 30))⟩, [], []⟩,
            ⟨14, .chain, 0, ⟨(some 32), (some (21, true)), .callv (.tmp 22) [(.tmp 26), (.tmp 31)]⟩, [], []⟩,
            ⟨15, .pure, 0, ⟨(some 33), (some (21, true)), .plain (.bin .lss (.tmp 32) (.const (.int .i64 0)))⟩, [], []⟩,
            ⟨16, .pure, 0, ⟨(some 34), none, .plain (.pick (.tmp 21) (.tmp 33) (.const (.bool false)))⟩, [], []⟩])
         (.cond (.tmp 34)
          .skip
          (.exit 2)))
        (.both (.block 3 (.draw 0 [⟨0, .pure, 0, ⟨(some 37), none, .plain (.mov (.tmp 0))⟩, [], []⟩,
            ⟨1, .pure, 0, ⟨(some 38), none, .plain (.mov (.tmp 9))⟩, [], []⟩,
            ⟨2, .pure, 0, ⟨(some 39), none, .plain (.mov (.tmp 0))⟩, [], []⟩,
            ⟨3, .pure, 0, ⟨(some 40), none, .plain (.mov (.tmp 9))⟩, [], []⟩,
            ⟨4, .pure, 0, ⟨(some 41), none, .plain (.bin .sub (.tmp 40) (.const (.int .i64 1)))⟩, [], []⟩,
            ⟨5, .pure, 0, ⟨(some 42), none, .plain (.mov (.tmp 0))⟩, [], []⟩,
            ⟨6, .pure, 0, ⟨(some 43), none, .plain (.mov (.tmp 9))⟩, [], []⟩,
            ⟨7, .pure, 0, ⟨(some 44), none, .plain (.bin .sub (.tmp 43) (.const (.int .i64 1)))⟩, [], []⟩,
            ⟨8, .pure, 0, ⟨(some 45), none, .plain (.iaddr none 2 (.tmp 42) (.tmp 44))⟩, [], []⟩,
            ⟨9, .read, 0, ⟨(some 46), none, .plain (.load (some 2) (.tmp 45))⟩, [], []⟩,
            ⟨10, .pure, 0, ⟨(some 47), none, .plain (.mov (.tmp 0))⟩, [], []⟩,
            ⟨11, .pure, 0, ⟨(some 48), none, .plain (.mov (.tmp 9))⟩, [], []⟩,
            ⟨12, .pure, 0, ⟨(some 49), none, .plain (.iaddr none 2 (.tmp 47) (.tmp 48))⟩, [], []⟩,
            ⟨13, .read, 0, ⟨(some 50), none, .plain (.load (some 2) (.tmp 49))⟩, [], []⟩,
            ⟨14, .pure, 0, ⟨(some 51), none, .plain (.iaddr none 2 (.tmp 37) (.tmp 38))⟩, [], []⟩,
            ⟨15, .chain, 0, ⟨none, none, .plain (.store 2 (.tmp 51) (.tmp 46))⟩, [], []⟩,
            ⟨16, .pure, 0, ⟨(some 52), none, .plain (.iaddr none 2 (.tmp 39) (.tmp 41))⟩, [], []⟩,
            ⟨17, .chain, 0, ⟨none, none, .plain (.store 2 (.tmp 52) (.tmp 50))⟩, [], []⟩]))
        (.seq [⟨(some 35), none, .plain (.mov (.tmp 9))⟩,
          ⟨(some 36), none, .plain (.bin .sub (.tmp 35) (.const (.int .i64 1)))⟩,
          ⟨(some 9), none, .plain (.mov (.tmp 36))⟩])))))))
    (.seq [⟨(some 15), none, .plain (.mov (.tmp 8))⟩,
      ⟨(some 16), none, .plain (.bin .add (.tmp 15) (.const (.int .i64 1)))⟩,
      ⟨(some 8), none, .plain (.mov (.tmp 16))⟩]))))))⟩
/-- fettle/octet.in -/
def a79 : AFunc := ⟨3, [.tmp 6],
  (.both (.seq [⟨(some 6), none, .plain (.mov (.const (.bool false)))⟩])
  (.both (.seq [⟨(some 7), none, .plain (.mov (.tmp 1))⟩,
     ⟨(some 8), none, .plain (.bin .geq (.tmp 7) (.const (.int .i64 0)))⟩,
     ⟨(some 9), none, .plain (.mov (.tmp 8))⟩,
     ⟨(some 10), (some (9, true)), .plain (.mov (.tmp 2))⟩,
     ⟨(some 11), (some (9, true)), .plain (.bin .geq (.tmp 10) (.const (.int .i64 0)))⟩,
     ⟨(some 12), none, .plain (.pick (.tmp 9) (.tmp 11) (.const (.bool false)))⟩,
     ⟨(some 13), none, .plain (.mov (.tmp 12))⟩,
     ⟨(some 14), (some (13, true)), .plain (.mov (.tmp 1))⟩,
     ⟨(some 15), (some (13, true)), .plain (.mov (.tmp 0))⟩,
     ⟨(some 16), (some (13, true)), .plain (.len .sl (.tmp 15))⟩,
     ⟨(some 17), (some (13, true)), .plain (.bin .leq (.tmp 14) (.tmp 16))⟩,
     ⟨(some 18), none, .plain (.pick (.tmp 13) (.tmp 17) (.const (.bool false)))⟩,
     ⟨(some 19), none, .plain (.mov (.tmp 18))⟩,
     ⟨(some 20), (some (19, true)), .plain (.mov (.tmp 2))⟩,
     ⟨(some 21), (some (19, true)), .plain (.mov (.tmp 0))⟩,
     ⟨(some 22), (some (19, true)), .plain (.len .sl (.tmp 21))⟩,
     ⟨(some 23), (some (19, true)), .plain (.mov (.tmp 1))⟩,
     ⟨(some 24), (some (19, true)), .plain (.bin .sub (.tmp 22) (.tmp 23))⟩,
     ⟨(some 25), (some (19, true)), .plain (.bin .leq (.tmp 20) (.tmp 24))⟩,
     ⟨(some 26), none, .plain (.pick (.tmp 19) (.tmp 25) (.const (.bool false)))⟩,
     ⟨(some 6), none, .plain (.mov (.tmp 26))⟩])
  .ret))⟩
/-- (fettle/parts.Mem).Read -/
def a104 : AFunc := ⟨3, [.tmp 6, .tmp 7],
  (.both (.seq [⟨(some 6), none, .plain (.mov (.const (.slice none 0 0)))⟩,
     ⟨(some 7), none, .plain (.mov (.const (.int .i64 0)))⟩])
  (.both (.both (.seq [⟨(some 8), none, .plain (.mov (.tmp 1))⟩,
      ⟨(some 9), none, .plain (.bin .lss (.tmp 8) (.const (.int .i64 0)))⟩,
      ⟨(some 10), none, .plain (.mov (.tmp 9))⟩,
      ⟨(some 11), (some (10, false)), .plain (.mov (.tmp 2))⟩,
      ⟨(some 12), (some (10, false)), .plain (.bin .lss (.tmp 11) (.const (.int .i64 0)))⟩,
      ⟨(some 13), none, .plain (.pick (.tmp 10) (.const (.bool true)) (.tmp 12))⟩,
      ⟨(some 14), none, .plain (.mov (.tmp 13))⟩,
      ⟨(some 15), (some (14, false)), .plain (.mov (.tmp 1))⟩,
      ⟨(some 16), (some (14, false)), .plain (.mov (.tmp 0))⟩,
      ⟨(some 17), (some (14, false)), .call 105 [(.tmp 16)]⟩,
      ⟨(some 18), (some (14, false)), .plain (.bin .gtr (.tmp 15) (.tmp 17))⟩,
      ⟨(some 19), none, .plain (.pick (.tmp 14) (.const (.bool true)) (.tmp 18))⟩,
      ⟨(some 20), none, .plain (.mov (.tmp 19))⟩,
      ⟨(some 21), (some (20, false)), .plain (.mov (.tmp 2))⟩,
      ⟨(some 22), (some (20, false)), .plain (.mov (.tmp 0))⟩,
      ⟨(some 23), (some (20, false)), .call 105 [(.tmp 22)]⟩,
      ⟨(some 24), (some (20, false)), .plain (.mov (.tmp 1))⟩,
      ⟨(some 25), (some (20, false)), .plain (.bin .sub (.tmp 23) (.tmp 24))⟩,
      ⟨(some 26), (some (20, false)), .plain (.bin .gtr (.tmp 21) (.tmp 25))⟩,
      ⟨(some 27), none, .plain (.pick (.tmp 20) (.const (.bool true)) (.tmp 26))⟩])
   (.cond (.tmp 27)
    (.both (.seq [⟨(some 6), none, .plain (.mov (.const (.slice none 0 0)))⟩,
       ⟨(some 7), none, .plain (.mov (.const (.int .i64 4)))⟩])
    .ret)
    .skip))
  (.both (.seq [⟨(some 28), none, .plain (.mov (.tmp 0))⟩,
     ⟨(some 29), none, .plain (.mov (.tmp 1))⟩,
     ⟨(some 30), none, .plain (.mov (.tmp 1))⟩,
     ⟨(some 31), none, .plain (.mov (.tmp 2))⟩,
     ⟨(some 32), none, .plain (.bin .add (.tmp 30) (.tmp 31))⟩,
     ⟨(some 33), none, .plain (.cut (.sl 1) (.tmp 28) (some (.tmp 29)) (some (.tmp 32)) none)⟩,
     ⟨(some 34), none, .plain (.append ⟨1, 1, [(.int .u8 0)]⟩ false (.const (.slice none 0 0)) (.tmp 33))⟩,
     ⟨(some 6), none, .plain (.mov (.tmp 34))⟩,
     ⟨(some 7), none, .plain (.mov (.const (.int .i64 0)))⟩])
  .ret)))⟩
/-- (fettle/parts.Mem).Size -/
def a105 : AFunc := ⟨1, [.tmp 2],
  (.both (.seq [⟨(some 2), none, .plain (.mov (.const (.int .i64 0)))⟩])
  (.both (.seq [⟨(some 3), none, .plain (.mov (.tmp 0))⟩,
     ⟨(some 4), none, .plain (.len .sl (.tmp 3))⟩,
     ⟨(some 2), none, .plain (.mov (.tmp 4))⟩])
  .ret))⟩
def tabL : List (FuncId × AEntry) := [(3, .code a3), (4, .code a4), (5, .code a5), (6, .code a6), (7, .code a7), (8, .code a8), (9, .code a9), (10, .code a10), (11, .code a11), (12, .code a12), (13, .code a13), (14, .code a14), (15, .code a15), (18, .code a18), (20, .code a20), (22, .code a22), (23, .code a23), (24, .code a24), (25, .code a25), (26, .code a26), (27, .code a27), (28, .code a28), (30, .code a30), (31, .code a31), (32, .code a32), (33, .code a33), (39, .code a39), (40, .code a40), (41, .code a41), (42, .code a42), (43, .code a43), (44, .code a44), (45, .code a45), (46, .code a46), (51, .code a51), (60, .code a60), (61, .code a61), (62, .code a62), (63, .code a63), (79, .code a79), (104, .code a104), (105, .code a105)]
def tab : Tr AEntry := (.node none (.node none (.node (some (.code a3)) (.node (some (.code a7)) (.node (some (.code a15)) (.node (some (.code a31)) (.node (some (.code a63)) .leaf .leaf) .leaf) (.node none (.node (some (.code a79)) .leaf .leaf) .leaf)) (.node (some (.code a23)) (.node (some (.code a39)) .leaf .leaf) .leaf)) (.node (some (.code a11)) (.node none .leaf (.node (some (.code a51)) .leaf .leaf)) (.node (some (.code a27)) (.node (some (.code a43)) .leaf .leaf) .leaf))) (.node (some (.code a5)) (.node (some (.code a9)) (.node none (.node (some (.code a33)) .leaf .leaf) .leaf) (.node (some (.code a25)) (.node (some (.code a41)) .leaf (.node (some (.code a105)) .leaf .leaf)) .leaf)) (.node (some (.code a13)) .leaf (.node none (.node (some (.code a45)) .leaf .leaf) (.node (some (.code a61)) .leaf .leaf))))) (.node none (.node (some (.code a4)) (.node (some (.code a8)) (.node none (.node (some (.code a32)) .leaf .leaf) .leaf) (.node (some (.code a24)) (.node (some (.code a40)) .leaf (.node (some (.code a104)) .leaf .leaf)) .leaf)) (.node (some (.code a12)) (.node (some (.code a20)) .leaf .leaf) (.node (some (.code a28)) (.node (some (.code a44)) .leaf .leaf) (.node (some (.code a60)) .leaf .leaf)))) (.node (some (.code a6)) (.node (some (.code a10)) (.node (some (.code a18)) .leaf .leaf) (.node (some (.code a26)) (.node (some (.code a42)) .leaf .leaf) .leaf)) (.node (some (.code a14)) (.node (some (.code a22)) .leaf .leaf) (.node (some (.code a30)) (.node (some (.code a46)) .leaf .leaf) (.node (some (.code a62)) .leaf .leaf))))))
theorem ok3 : callOk Try.prog 3 = true ∧ compF Try.prog 3 = some a3 := ⟨by kernel_rfl, by kernel_rfl⟩
theorem ok4 : callOk Try.prog 4 = true ∧ compF Try.prog 4 = some a4 := ⟨by kernel_rfl, by kernel_rfl⟩
theorem ok5 : callOk Try.prog 5 = true ∧ compF Try.prog 5 = some a5 := ⟨by kernel_rfl, by kernel_rfl⟩
theorem ok6 : callOk Try.prog 6 = true ∧ compF Try.prog 6 = some a6 := ⟨by kernel_rfl, by kernel_rfl⟩
theorem ok7 : callOk Try.prog 7 = true ∧ compF Try.prog 7 = some a7 := ⟨by kernel_rfl, by kernel_rfl⟩
theorem ok8 : callOk Try.prog 8 = true ∧ compF Try.prog 8 = some a8 := ⟨by kernel_rfl, by kernel_rfl⟩
theorem ok9 : callOk Try.prog 9 = true ∧ compF Try.prog 9 = some a9 := ⟨by kernel_rfl, by kernel_rfl⟩
theorem ok10 : callOk Try.prog 10 = true ∧ compF Try.prog 10 = some a10 := ⟨by kernel_rfl, by kernel_rfl⟩
theorem ok11 : callOk Try.prog 11 = true ∧ compF Try.prog 11 = some a11 := ⟨by kernel_rfl, by kernel_rfl⟩
theorem ok12 : callOk Try.prog 12 = true ∧ compF Try.prog 12 = some a12 := ⟨by kernel_rfl, by kernel_rfl⟩
theorem ok13 : callOk Try.prog 13 = true ∧ compF Try.prog 13 = some a13 := ⟨by kernel_rfl, by kernel_rfl⟩
theorem ok14 : callOk Try.prog 14 = true ∧ compF Try.prog 14 = some a14 := ⟨by kernel_rfl, by kernel_rfl⟩
theorem ok15 : callOk Try.prog 15 = true ∧ compF Try.prog 15 = some a15 := ⟨by kernel_rfl, by kernel_rfl⟩
theorem ok18 : callOk Try.prog 18 = true ∧ compF Try.prog 18 = some a18 := ⟨by kernel_rfl, by kernel_rfl⟩
theorem ok20 : callOk Try.prog 20 = true ∧ compF Try.prog 20 = some a20 := ⟨by kernel_rfl, by kernel_rfl⟩
theorem ok22 : callOk Try.prog 22 = true ∧ compF Try.prog 22 = some a22 := ⟨by kernel_rfl, by kernel_rfl⟩
theorem ok23 : callOk Try.prog 23 = true ∧ compF Try.prog 23 = some a23 := ⟨by kernel_rfl, by kernel_rfl⟩
theorem ok24 : callOk Try.prog 24 = true ∧ compF Try.prog 24 = some a24 := ⟨by kernel_rfl, by kernel_rfl⟩
theorem ok25 : callOk Try.prog 25 = true ∧ compF Try.prog 25 = some a25 := ⟨by kernel_rfl, by kernel_rfl⟩
theorem ok26 : callOk Try.prog 26 = true ∧ compF Try.prog 26 = some a26 := ⟨by kernel_rfl, by kernel_rfl⟩
theorem ok27 : callOk Try.prog 27 = true ∧ compF Try.prog 27 = some a27 := ⟨by kernel_rfl, by kernel_rfl⟩
theorem ok28 : callOk Try.prog 28 = true ∧ compF Try.prog 28 = some a28 := ⟨by kernel_rfl, by kernel_rfl⟩
theorem ok30 : callOk Try.prog 30 = true ∧ compF Try.prog 30 = some a30 := ⟨by kernel_rfl, by kernel_rfl⟩
theorem ok31 : callOk Try.prog 31 = true ∧ compF Try.prog 31 = some a31 := ⟨by kernel_rfl, by kernel_rfl⟩
theorem ok32 : callOk Try.prog 32 = true ∧ compF Try.prog 32 = some a32 := ⟨by kernel_rfl, by kernel_rfl⟩
theorem ok33 : callOk Try.prog 33 = true ∧ compF Try.prog 33 = some a33 := ⟨by kernel_rfl, by kernel_rfl⟩
theorem ok39 : callOk Try.prog 39 = true ∧ compF Try.prog 39 = some a39 := ⟨by kernel_rfl, by kernel_rfl⟩
theorem ok40 : callOk Try.prog 40 = true ∧ compF Try.prog 40 = some a40 := ⟨by kernel_rfl, by kernel_rfl⟩
theorem ok41 : callOk Try.prog 41 = true ∧ compF Try.prog 41 = some a41 := ⟨by kernel_rfl, by kernel_rfl⟩
theorem ok42 : callOk Try.prog 42 = true ∧ compF Try.prog 42 = some a42 := ⟨by kernel_rfl, by kernel_rfl⟩
theorem ok43 : callOk Try.prog 43 = true ∧ compF Try.prog 43 = some a43 := ⟨by kernel_rfl, by kernel_rfl⟩
theorem ok44 : callOk Try.prog 44 = true ∧ compF Try.prog 44 = some a44 := ⟨by kernel_rfl, by kernel_rfl⟩
theorem ok45 : callOk Try.prog 45 = true ∧ compF Try.prog 45 = some a45 := ⟨by kernel_rfl, by kernel_rfl⟩
theorem ok46 : callOk Try.prog 46 = true ∧ compF Try.prog 46 = some a46 := ⟨by kernel_rfl, by kernel_rfl⟩
theorem ok51 : callOk Try.prog 51 = true ∧ compF Try.prog 51 = some a51 := ⟨by kernel_rfl, by kernel_rfl⟩
theorem ok60 : callOk Try.prog 60 = true ∧ compF Try.prog 60 = some a60 := ⟨by kernel_rfl, by kernel_rfl⟩
theorem ok61 : callOk Try.prog 61 = true ∧ compF Try.prog 61 = some a61 := ⟨by kernel_rfl, by kernel_rfl⟩
theorem ok62 : callOk Try.prog 62 = true ∧ compF Try.prog 62 = some a62 := ⟨by kernel_rfl, by kernel_rfl⟩
theorem ok63 : callOk Try.prog 63 = true ∧ compF Try.prog 63 = some a63 := ⟨by kernel_rfl, by kernel_rfl⟩
theorem ok79 : callOk Try.prog 79 = true ∧ compF Try.prog 79 = some a79 := ⟨by kernel_rfl, by kernel_rfl⟩
theorem ok104 : callOk Try.prog 104 = true ∧ compF Try.prog 104 = some a104 := ⟨by kernel_rfl, by kernel_rfl⟩
theorem ok105 : callOk Try.prog 105 = true ∧ compF Try.prog 105 = some a105 := ⟨by kernel_rfl, by kernel_rfl⟩
theorem tabOk : TabSound Try.prog (fun f => tab.get f) := tr_sound (l := tabL) (by kernel_rfl) ⟨ok3, ok4, ok5, ok6, ok7, ok8, ok9, ok10, ok11, ok12, ok13, ok14, ok15, ok18, ok20, ok22, ok23, ok24, ok25, ok26, ok27, ok28, ok30, ok31, ok32, ok33, ok39, ok40, ok41, ok42, ok43, ok44, ok45, ok46, ok51, ok60, ok61, ok62, ok63, ok79, ok104, ok105, trivial⟩
theorem follows : Try.prog.follows .mixedOrders = true := by kernel_rfl
end Go.Proofs.Ytejlmlfncbcbbaa.AMC
